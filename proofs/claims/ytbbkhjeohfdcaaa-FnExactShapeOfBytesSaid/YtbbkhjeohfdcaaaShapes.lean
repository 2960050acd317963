/- Shapes and lists of shapes, as the laws copy, count and compare them. -/
import Derived.Test.YtbbkhjeohfdcaaaShape
set_option linter.unusedVariables false
set_option linter.unusedSimpArgs false
set_option maxRecDepth 100000
namespace Go.Proofs.Ytbbkhjeohfdcaaa
open Go.Ev

--B wNode NodeD → Nat
def wNode (n : NodeD) : Nat := n.2.2.2.length
abbrev tS : Ty := .slice tN
abbrev ShapeD := List NodeD
--B wShape ShapeD → Nat
def wShape (s : ShapeD) : Nat := wList wNode s











def fitN (n : NodeD) : Bool := decide (n.2.2.2.length ≤ 1048576)
def fitS (s : ShapeD) : Bool := decide (s.length ≤ 1048576) && s.all fitN





/-! laws.eqNode -/
noncomputable def c_laws_eqNode : Ctx := mkC Try.prog tyT [(52, s_laws_eqFloat32S)] [] [] 26 (fun _ => none) 0
theorem w_laws_eqNode (m n : NodeD) (K : V → Heap → Prop) : wpFn c_laws_eqNode Try.f37 (encAs [.agg tN, .agg tN] (m, n, ())) [] K =
  cond (Prod.fst m != Prod.fst n)
    (K (.bool false) [])
    (cond (Prod.fst (Prod.snd m) != Prod.fst (Prod.snd n))
      (K (.bool false) [])
      (cond (Prod.fst (Prod.snd (Prod.snd m)) != Prod.fst (Prod.snd (Prod.snd n)))
        (K (.bool false) [])
        (cond (Prod.snd (Prod.snd (Prod.snd m)) == Prod.snd (Prod.snd (Prod.snd n)))
          (K (.bool true) [])
          (False)))) := by kernel_rfl
noncomputable def s_laws_eqNode : Sm := semG [.agg tN, .agg tN] (fun x => match x with | (m, n, _) => m == n) fun x => match x with | (m, n, _) => .bool true
theorem ok_laws_eqNode : FnOk Try.prog 37 s_laws_eqNode := fnOk_typedG (fnOk_runC (C := c_laws_eqNode) rfl mixed (.cons ok_laws_eqFloat32S .nil) .nil .nil Try.func37 (by kernel_rfl)) fun (x : ((NodeD) × (NodeD) × Unit)) wf hg K h => by
  obtain ⟨m, n, ⟨⟩⟩ := x
  replace hg : (m == n) = true := hg
  replace h : K (.bool true) [] := h
  rw [w_laws_eqNode m n K]
  have e : m = n := by simpa using hg
  subst e
  simp only [beq_self_eq_true, bne_self_eq_false, cond_true, cond_false, Bool.not_true]
  exact h

/-! laws.eqNodeS -/
noncomputable def a_laws_eqNodeS : Nat → Option Ann := fun n => bif Nat.beq n 4 then some ⟨[0,1,5],0,false⟩ else none
noncomputable def c_laws_eqNodeS : Ctx := mkC Try.prog tyT [(37, s_laws_eqNode)] [] [] 27 a_laws_eqNodeS 0
noncomputable def fr_laws_eqNodeS_4 (xs ys : List (NodeD)) (i : Int) : Fr := [(0, .vec (tN) xs), (1, .vec (tN) ys), (5, .int .i64 i)]
theorem r_laws_eqNodeS_4 (xs ys : List (NodeD)) (i : Int) (Kn : Fr → Heap → Prop) (K : V → Heap → Prop) : round c_laws_eqNodeS ⟨[0,1,5],0,false⟩ (lb c_laws_eqNodeS 4 Try.f15) (fr_laws_eqNodeS_4 xs ys i) [] Kn (lk c_laws_eqNodeS 4 Try.f15 [] K) =
  cond (decide (i < (↑(List.length xs) : Int)))
    (cond (decide (0 ≤ i))
      ((match xs[Int.toNat i]? with
        | some y0 => cond (decide (0 ≤ i))
          ((match ys[Int.toNat i]? with
            | some y1 => cond (y0 == y1)
              (Kn [(0, (.vec (.pair (.int .i64) (.pair (.int .i64) (.pair (.int .i64) (.slice (.float .f32))))) (xs))), (1, (.vec (.pair (.int .i64) (.pair (.int .i64) (.pair (.int .i64) (.slice (.float .f32))))) (ys))), (5, (.int .i64 (IntKind.wrap IntKind.i64 (i + 1))))] [])
              (False)
            | none => False))
          (False)
        | none => False))
      (False))
    (K (.bool true) []) := by kernel_rfl
theorem w_laws_eqNodeS (xs ys : List (NodeD)) (K : V → Heap → Prop) : wpFn c_laws_eqNodeS Try.f15 (encAs [.cell (.slice (tN)), .cell (.slice (tN))] (xs, ys, ())) [] K =
  cond ((↑(List.length xs) : Int) != (↑(List.length ys) : Int))
    (K (.bool false) [])
    (LoopE c_laws_eqNodeS ⟨[0, 1, 5], 0, false⟩ (lb c_laws_eqNodeS 4 Try.f15) [(0, (.vec (.pair (.int .i64) (.pair (.int .i64) (.pair (.int .i64) (.slice (.float .f32))))) (xs))), (1, (.vec (.pair (.int .i64) (.pair (.int .i64) (.pair (.int .i64) (.slice (.float .f32))))) (ys))), (5, (.int .i64 0))] [] (lk c_laws_eqNodeS 4 Try.f15 [] K)) := by kernel_rfl
noncomputable def s_laws_eqNodeS : Sm := semG [.cell (.slice (tN)), .cell (.slice (tN))] (fun x => match x with | (xs, ys, _) => xs == ys) fun x => match x with | (xs, ys, _) => .bool true
theorem ok_laws_eqNodeS : FnOk Try.prog 15 s_laws_eqNodeS := fnOk_typedG (fnOk_runC (C := c_laws_eqNodeS) rfl mixed (.cons ok_laws_eqNode .nil) .nil .nil Try.func15 (by kernel_rfl)) fun (x : ((List (NodeD)) × (List (NodeD)) × Unit)) wf hg K h => by
  obtain ⟨xs, ys, ⟨⟩⟩ := x
  replace hg : (xs == ys) = true := hg
  replace h : K (.bool true) [] := h
  rw [w_laws_eqNodeS xs ys K]
  have e : xs = ys := by simpa using hg
  subst e
  obtain ⟨⟨wl, _⟩, _⟩ := wf
  rw [bne_self_eq_false, cond_false]
  refine loop_run (σ := Nat) (fun i => fr_laws_eqNodeS_4 xs xs i) (fun _ => []) (fun i => i ≤ xs.length) (fun i => xs.length - i) ?_ 0 (Nat.zero_le _)
  intro i hi Kn hk
  rw [r_laws_eqNodeS_4 xs xs i Kn K]
  by_cases hlt : i < xs.length
  · simp only [d_lt hlt, d_0, cond_true, Int.toNat_natCast, get_lt hlt, beq_self_eq_true]
    have hm : xs.length ≤ 9223372036854775807 := wl
    rw [i64_of (by omega) (by omega)]
    exact hk (i + 1) hlt (by omega)
  · simp only [d_nlt hlt, cond_false]
    exact h

/-! laws.eqShape -/
noncomputable def c_laws_eqShape : Ctx := mkC Try.prog tyT [(15, s_laws_eqNodeS)] [] [] 11 (fun _ => none) 0
theorem w_laws_eqShape (m n : ShapeD) (K : V → Heap → Prop) : wpFn c_laws_eqShape Try.f6 (encAs [.agg tS, .agg tS] (m, n, ())) [] K =
  cond (m == n)
    (K (.bool true) [])
    (False) := by kernel_rfl
noncomputable def s_laws_eqShape : Sm := semG [.agg tS, .agg tS] (fun x => match x with | (m, n, _) => m == n) fun x => match x with | (m, n, _) => .bool true
theorem ok_laws_eqShape : FnOk Try.prog 6 s_laws_eqShape := fnOk_typedG (fnOk_runC (C := c_laws_eqShape) rfl mixed (.cons ok_laws_eqNodeS .nil) .nil .nil Try.func6 (by kernel_rfl)) fun (x : ((ShapeD) × (ShapeD) × Unit)) wf hg K h => by
  obtain ⟨m, n, ⟨⟩⟩ := x
  replace hg : (m == n) = true := hg
  replace h : K (.bool true) [] := h
  rw [w_laws_eqShape m n K]
  rw [hg]; exact h


theorem fitS_of {s : ShapeD} (h : wShape s ≤ 1048576) : fitS s = true := by
  unfold fitS
  have h1 := wList_ge wNode s
  simp only [Bool.and_eq_true, decide_eq_true_eq]
  refine ⟨by unfold wShape at h; omega, List.all_eq_true.2 fun n hn => decide_eq_true ?_⟩
  have := mem_le wNode hn
  unfold wShape wList at h
  have e : wNode n = n.2.2.2.length := rfl
  omega

end Go.Proofs.Ytbbkhjeohfdcaaa
