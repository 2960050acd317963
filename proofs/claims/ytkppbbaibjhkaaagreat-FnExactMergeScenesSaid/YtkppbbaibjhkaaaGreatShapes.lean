/- Shapes and lists of shapes, as the laws copy, count and compare them. -/
import Derived.Test.YtkppbbaibjhkaaaGreatShape
set_option linter.unusedVariables false
set_option linter.unusedSimpArgs false
set_option maxRecDepth 100000
namespace Go.Proofs.YtkppbbaibjhkaaaGreat
open Go.Ev

--B wNode NodeD → Nat
def wNode (n : NodeD) : Nat := n.2.2.2.length
abbrev tS : Ty := .slice tN
abbrev ShapeD := List NodeD
--B wShape ShapeD → Nat
def wShape (s : ShapeD) : Nat := wList wNode s



/-! laws.szNode -/
noncomputable def c_laws_szNode : Ctx := mkC Tryz.prog tyT [(87, s_laws_szFloat32S)] [] [] 12 (fun _ => none) 0
theorem w_laws_szNode (k a b : Int) (xs : List Nat) (n : Int) (K : V → Heap → Prop) : wpFn c_laws_szNode Tryz.f61 (encAs [.agg tN, .cell tI] ((k, a, b, xs), n, ())) [] K =
  cond (decide (n ≤ 1048576) && decide (0 ≤ n))
    (cond (decide (szV n (List.length xs) < 0))
      (K (.int .i64 (-1)) [])
      (K (.int .i64 (szV n (List.length xs))) []))
    (False) := by kernel_rfl
noncomputable def s_laws_szNode : Sm := semG [.agg tN, .cell tI] (fun x => match x with | ((k, a, b, xs), n, _) => decide (n ≤ 1048576) && decide (0 ≤ n)) fun x => match x with | ((k, a, b, xs), n, _) => .int .i64 (szV n (wNode (k, a, b, xs)))
theorem ok_laws_szNode : FnOk Tryz.prog 61 s_laws_szNode := fnOk_typedG (fnOk_runC (C := c_laws_szNode) rfl mixed (.cons ok_laws_szFloat32S .nil) .nil .nil Tryz.func61 (by kernel_rfl)) fun (x : (((Int) × (Int) × (Int) × (List Nat)) × (Int) × Unit)) wf hg K h => by
  obtain ⟨⟨k, a, b, xs⟩, n, ⟨⟩⟩ := x
  replace hg : (decide (n ≤ 1048576) && decide (0 ≤ n)) = true := hg
  replace h : K (.int .i64 (szV n (wNode (k, a, b, xs)))) [] := h
  rw [w_laws_szNode k a b xs n K]
  rw [hg]
  simp only [cond_true]
  by_cases h1 : n - (xs.length : Int) < 0
  · rw [szV_no (w := wNode (k, a, b, xs)) h1] at h
    simp only [szV_no (w := xs.length) h1]
    exact h
  · rw [szV_ok (w := wNode (k, a, b, xs)) (by show 0 ≤ n - (xs.length : Int); omega)] at h
    simp only [szV_ok (w := xs.length) (n := n) (by omega), d_f h1, cond_false]
    exact h

/-! laws.szNodeS -/
noncomputable def a_laws_szNodeS : Nat → Option Ann := fun n => bif Nat.beq n 5 then some ⟨[0,1,5],0,false⟩ else none
noncomputable def c_laws_szNodeS : Ctx := mkC Tryz.prog tyT [(61, s_laws_szNode)] [] [] 27 a_laws_szNodeS 0
noncomputable def fr_laws_szNodeS_5 (xs : List (NodeD)) (n i : Int) : Fr := [(0, .vec (tN) xs), (1, .int .i64 n), (5, .int .i64 i)]
theorem r_laws_szNodeS_5 (xs : List (NodeD)) (n i : Int) (Kn : Fr → Heap → Prop) (K : V → Heap → Prop) : round c_laws_szNodeS ⟨[0,1,5],0,false⟩ (lb c_laws_szNodeS 5 Tryz.f41) (fr_laws_szNodeS_5 xs n i) [] Kn (lk c_laws_szNodeS 5 Tryz.f41 [] K) =
  cond (decide (i < (↑(List.length xs) : Int)))
    (cond (decide (0 ≤ i))
      ((match xs[Int.toNat i]? with
        | some y0 => cond (decide (n ≤ 1048576) && decide (0 ≤ n))
          (cond (decide (szV n (wNode y0) < 0))
            (K (.int .i64 (-1)) [])
            (Kn [(0, (.vec (.pair (.int .i64) (.pair (.int .i64) (.pair (.int .i64) (.slice (.float .f32))))) (xs))), (1, (.int .i64 (szV n (wNode y0)))), (5, (.int .i64 (IntKind.wrap IntKind.i64 (i + 1))))] []))
          (False)
        | none => False))
      (False))
    (K (.int .i64 (n)) []) := by kernel_rfl
theorem w_laws_szNodeS (xs : List (NodeD)) (n : Int) (K : V → Heap → Prop) : wpFn c_laws_szNodeS Tryz.f41 (encAs [.cell (.slice (tN)), .cell (.int .i64)] (xs, n, ())) [] K =
  cond (decide (IntKind.wrap IntKind.i64 (n - (↑(List.length xs) : Int)) < 0))
    (K (.int .i64 (-1)) [])
    (LoopE c_laws_szNodeS ⟨[0, 1, 5], 0, false⟩ (lb c_laws_szNodeS 5 Tryz.f41) [(0, (.vec (.pair (.int .i64) (.pair (.int .i64) (.pair (.int .i64) (.slice (.float .f32))))) (xs))), (1, (.int .i64 (IntKind.wrap IntKind.i64 (n - (↑(List.length xs) : Int))))), (5, (.int .i64 0))] [] (lk c_laws_szNodeS 5 Tryz.f41 [] K)) := by kernel_rfl
noncomputable def s_laws_szNodeS : Sm := semG [.cell (.slice (tN)), .cell (.int .i64)] (fun x => match x with | (xs, n, _) => decide (n ≤ 1048576) && decide (0 ≤ n)) fun x => match x with | (xs, n, _) => .int .i64 (szV n (wList (wNode) xs))
theorem ok_laws_szNodeS : FnOk Tryz.prog 41 s_laws_szNodeS := fnOk_typedG (fnOk_runC (C := c_laws_szNodeS) rfl mixed (.cons ok_laws_szNode .nil) .nil .nil Tryz.func41 (by kernel_rfl)) fun (x : ((List (NodeD)) × (Int) × Unit)) wf hg K h => by
  obtain ⟨xs, n, ⟨⟩⟩ := x
  replace hg : (decide (n ≤ 1048576) && decide (0 ≤ n)) = true := hg
  replace h : K (.int .i64 (szV n (wList (wNode) xs))) [] := h
  rw [w_laws_szNodeS xs n K]
  obtain ⟨⟨wl, wx⟩, wn, _⟩ := wf
  have wl' : xs.length ≤ 9223372036854775807 := wl
  simp only [Bool.and_eq_true, decide_eq_true_eq] at hg
  rw [i64_of (by omega) (by omega)]
  by_cases hn : n - (xs.length : Int) < 0
  · simp only [d_t hn, cond_true]
    rw [szV_no (w := wList (wNode) xs) (by have := wList_ge (wNode) xs; omega)] at h
    exact h
  · simp only [d_f hn, cond_false]
    have e0 : n - (xs.length : Int) = n - (xs.length : Int) - ((((xs.take 0).map (wNode)).sum : Nat) : Int) := by simp
    rw [e0]
    refine loop_run (σ := Nat) (fun i => fr_laws_szNodeS_5 xs (n - (xs.length : Int) - ((xs.take i).map (wNode)).sum) i) (fun _ => []) (fun i => i ≤ xs.length ∧ (((xs.take i).map (wNode)).sum : Int) ≤ n - (xs.length : Int)) (fun i => xs.length - i) ?_ 0 ⟨Nat.zero_le _, by simp; omega⟩
    intro i hi Kn hk
    rw [r_laws_szNodeS_5 xs (n - (xs.length : Int) - ((xs.take i).map (wNode)).sum) i Kn K]
    by_cases hlt : i < xs.length
    · simp only [d_lt hlt, d_0, cond_true, Int.toNat_natCast, get_lt hlt]
      have hs := sum_take (wNode) hlt
      have hle := sum_le (wNode) xs (i + 1)
      generalize hW : ((xs.take i).map (wNode)).sum = W at *
      have hg1 : n - (xs.length : Int) - (W : Int) ≤ 1048576 := by omega
      have hg2 : 0 ≤ n - (xs.length : Int) - (W : Int) := by omega
      simp only [d_t hg1, d_t hg2, Bool.and_self, cond_true]
      by_cases h1 : n - (xs.length : Int) - (W : Int) - (((wNode) (xs[i]'hlt) : Nat) : Int) < 0
      · simp only [szV_no h1, show decide ((-1 : Int) < 0) = true from rfl, cond_true]
        rw [szV_no (w := wList (wNode) xs) (by simp only [wList]; omega)] at h
        exact h
      · simp only [szV_ok (w := (wNode) (xs[i]'hlt)) (n := n - (xs.length : Int) - (W : Int)) (by omega), d_f h1, cond_false]
        rw [i64_of (by omega) (by omega)]
        have := hk (i + 1) ⟨hlt, by omega⟩ (by omega)
        rw [hs, show n - (xs.length : Int) - ((W + (wNode) (xs[i]'hlt) : Nat) : Int) = n - (xs.length : Int) - (W : Int) - (((wNode) (xs[i]'hlt) : Nat) : Int) by omega] at this
        exact this
    · have : i = xs.length := by omega
      subst this
      simp only [d_nlt hlt, cond_false, List.take_length]
      have h2 := hi.2
      rw [List.take_length] at h2
      rw [szV_ok (w := wList (wNode) xs) (by simp only [wList]; omega), show n - ((wList (wNode) xs : Nat) : Int) = n - (xs.length : Int) - ((xs.map (wNode)).sum : Int) by simp only [wList]; omega] at h
      exact h


/-! laws.szShape -/
noncomputable def c_laws_szShape : Ctx := mkC Tryz.prog tyT [(41, s_laws_szNodeS)] [] [] 12 (fun _ => none) 0
theorem w_laws_szShape (s : ShapeD) (n : Int) (K : V → Heap → Prop) : wpFn c_laws_szShape Tryz.f19 (encAs [.agg tS, .cell tI] (s, n, ())) [] K =
  cond (decide (n ≤ 1048576) && decide (0 ≤ n))
    (cond (decide (szV n (wList wNode s) < 0))
      (K (.int .i64 (-1)) [])
      (K (.int .i64 (szV n (wList wNode s))) []))
    (False) := by kernel_rfl
noncomputable def s_laws_szShape : Sm := semG [.agg tS, .cell tI] (fun x => match x with | (s, n, _) => decide (n ≤ 1048576) && decide (0 ≤ n)) fun x => match x with | (s, n, _) => .int .i64 (szV n (wShape s))
theorem ok_laws_szShape : FnOk Tryz.prog 19 s_laws_szShape := fnOk_typedG (fnOk_runC (C := c_laws_szShape) rfl mixed (.cons ok_laws_szNodeS .nil) .nil .nil Tryz.func19 (by kernel_rfl)) fun (x : ((ShapeD) × (Int) × Unit)) wf hg K h => by
  obtain ⟨s, n, ⟨⟩⟩ := x
  replace hg : (decide (n ≤ 1048576) && decide (0 ≤ n)) = true := hg
  replace h : K (.int .i64 (szV n (wShape s))) [] := h
  rw [w_laws_szShape s n K]
  rw [hg]
  simp only [cond_true]
  by_cases h1 : n - (wShape s : Int) < 0
  · rw [szV_no h1] at h
    simp only [show wList wNode s = wShape s from rfl, szV_no h1]
    exact h
  · rw [szV_ok (by omega)] at h
    simp only [show wList wNode s = wShape s from rfl, szV_ok (n := n) (w := wShape s) (by omega), d_f h1, cond_false]
    exact h




/-! laws.toNode -/
noncomputable def c_laws_toNode : Ctx := mkC Tryz.prog tyT [(92, s_laws_toFloat32S)] [] [] 18 (fun _ => none) 0
theorem w_laws_toNode (k a b : Int) (xs : List Nat) (K : V → Heap → Prop) : wpFn c_laws_toNode Tryz.f68 (encAs [.agg tN] ((k, a, b, xs), ())) [] K =
  cond (decide (List.length xs ≤ 1048576))
    (K (.agg [(.int .i64 (k)), (.int .i64 (a)), (.int .i64 (b)), (.vec (.float .f32) (xs))]) [])
    (False) := by kernel_rfl
noncomputable def s_laws_toNode : Sm := semG [.agg tN] (fun x => match x with | ((k, a, b, xs), _) => decide (xs.length ≤ 1048576)) fun x => match x with | ((k, a, b, xs), _) => .agg [.int .i64 k, .int .i64 a, .int .i64 b, .vec tF xs]
theorem ok_laws_toNode : FnOk Tryz.prog 68 s_laws_toNode := fnOk_typedG (fnOk_runC (C := c_laws_toNode) rfl mixed (.cons ok_laws_toFloat32S .nil) .nil .nil Tryz.func68 (by kernel_rfl)) fun (x : (((Int) × (Int) × (Int) × (List Nat)) × Unit)) wf hg K h => by
  obtain ⟨⟨k, a, b, xs⟩, ⟨⟩⟩ := x
  replace hg : (decide (xs.length ≤ 1048576)) = true := hg
  replace h : K (.agg [.int .i64 k, .int .i64 a, .int .i64 b, .vec tF xs]) [] := h
  rw [w_laws_toNode k a b xs K]
  rw [hg]; exact h

def fitN (n : NodeD) : Bool := decide (n.2.2.2.length ≤ 1048576)
def fitS (s : ShapeD) : Bool := decide (s.length ≤ 1048576) && s.all fitN

/-! laws.toNodeS -/
noncomputable def a_laws_toNodeS : Nat → Option Ann := fun n => bif Nat.beq n 3 then some ⟨[0,3,4],1,false⟩ else none
noncomputable def c_laws_toNodeS : Ctx := mkC Tryz.prog tyT [(68, s_laws_toNode)] [] [] 23 a_laws_toNodeS 0
noncomputable def fr_laws_toNodeS_3 (xs ys : List (NodeD)) (i : Int) : Fr := [(0, .vec (tN) xs), (3, .obj 0 0), (4, .int .i64 i)]
noncomputable def hp_laws_toNodeS_3 (xs ys : List (NodeD)) (i : Int) : Heap := [.sl 0 (tN) ys]
theorem r_laws_toNodeS_3 (xs ys : List (NodeD)) (i : Int) (Kn : Fr → Heap → Prop) (K : V → Heap → Prop) : round c_laws_toNodeS ⟨[0,3,4],1,false⟩ (lb c_laws_toNodeS 3 Tryz.f46) (fr_laws_toNodeS_3 xs ys i) (hp_laws_toNodeS_3 xs ys i) Kn (lk c_laws_toNodeS 3 Tryz.f46 [] K) =
  cond (decide (i < (↑(List.length xs) : Int)))
    (cond (decide (0 ≤ i))
      ((match xs[Int.toNat i]? with
        | some y0 => cond (decide (List.length (Prod.snd (Prod.snd (Prod.snd y0))) ≤ 1048576))
          (cond (decide (0 ≤ i) && Nat.blt (Int.toNat i) (List.length ys))
            ((match ys[Int.toNat i]? with
              | some x1 => Kn [(0, (.vec (.pair (.int .i64) (.pair (.int .i64) (.pair (.int .i64) (.slice (.float .f32))))) (xs))), (3, (.obj 0 0)), (4, (.int .i64 (IntKind.wrap IntKind.i64 (i + 1))))] [(.sl 0 (.pair (.int .i64) (.pair (.int .i64) (.pair (.int .i64) (.slice (.float .f32))))) (List.set ys (Int.toNat i) y0))]
              | none => False))
            (False))
          (False)
        | none => False))
      (False))
    (K (.vec (.pair (.int .i64) (.pair (.int .i64) (.pair (.int .i64) (.slice (.float .f32))))) (ys)) []) := by kernel_rfl
theorem w_laws_toNodeS (xs : List (NodeD)) (K : V → Heap → Prop) : wpFn c_laws_toNodeS Tryz.f46 (encAs [.cell (.slice (tN))] (xs, ())) [] K =
  cond (decide (0 ≤ (↑(List.length xs) : Int)) && (decide ((↑(List.length xs) : Int) ≤ (↑(List.length xs) : Int)) && decide ((↑48 : Int) * (↑(List.length xs) : Int) ≤ 281474976710656)))
    (LoopE c_laws_toNodeS ⟨[0, 3, 4], 1, false⟩ (lb c_laws_toNodeS 3 Tryz.f46) [(0, (.vec (.pair (.int .i64) (.pair (.int .i64) (.pair (.int .i64) (.slice (.float .f32))))) (xs))), (3, (.obj 0 0)), (4, (.int .i64 0))] [(.sl 0 (.pair (.int .i64) (.pair (.int .i64) (.pair (.int .i64) (.slice (.float .f32))))) (List.replicate (Int.toNat (↑(List.length xs) : Int)) (0, 0, 0, [])))] (lk c_laws_toNodeS 3 Tryz.f46 [] K))
    (False) := by kernel_rfl
noncomputable def s_laws_toNodeS : Sm := semG [.cell (.slice (tN))] (fun x => match x with | (xs, _) => decide (xs.length ≤ 1048576) && xs.all fitN) fun x => match x with | (xs, _) => .vec (tN) xs
theorem ok_laws_toNodeS : FnOk Tryz.prog 46 s_laws_toNodeS := fnOk_typedG (fnOk_runC (C := c_laws_toNodeS) rfl mixed (.cons ok_laws_toNode .nil) .nil .nil Tryz.func46 (by kernel_rfl)) fun (x : ((List (NodeD)) × Unit)) wf hg K h => by
  obtain ⟨xs, ⟨⟩⟩ := x
  replace hg : (decide (xs.length ≤ 1048576) && xs.all fitN) = true := hg
  replace h : K (.vec (tN) xs) [] := h
  rw [w_laws_toNodeS xs K]
  simp only [Bool.and_eq_true, decide_eq_true_eq] at hg
  obtain ⟨hg, hg2⟩ := hg
  rw [d_0, d_t (Int.le_refl _), d_t (by omega)]
  simp only [Bool.and_self, cond_true, Int.toNat_natCast]
  refine loop_run (σ := Nat) (fun i => fr_laws_toNodeS_3 xs [] i) (fun i => hp_laws_toNodeS_3 xs (xs.take i ++ List.replicate (xs.length - i) (0, 0, 0, [])) i) (fun i => i ≤ xs.length) (fun i => xs.length - i) ?_ 0 (Nat.zero_le _)
  intro i hi Kn hk
  rw [show fr_laws_toNodeS_3 xs [] i = fr_laws_toNodeS_3 xs (xs.take i ++ List.replicate (xs.length - i) (0, 0, 0, [])) i from rfl, r_laws_toNodeS_3 xs (xs.take i ++ List.replicate (xs.length - i) (0, 0, 0, [])) i Kn K]
  by_cases hlt : i < xs.length
  · have hl : (xs.take i ++ List.replicate (xs.length - i) (0, 0, 0, [])).length = xs.length := by rw [List.length_append, List.length_take, List.length_replicate]; omega
    have hl' : i < (xs.take i ++ List.replicate (xs.length - i) (0, 0, 0, [])).length := by omega
    have hx : decide ((xs[i]'hlt).2.2.2.length ≤ 1048576) = true := List.all_eq_true.1 hg2 _ (List.getElem_mem hlt)
    simp only [d_lt hlt, d_0, cond_true, Int.toNat_natCast, get_lt hlt, blt_t hl', get_lt hl', Bool.and_self, hx]
    rw [i64_of (by omega) (by omega), copy_step hlt rfl rfl]
    exact hk (i + 1) hlt (by omega)
  · have : i = xs.length := by omega
    subst this
    simp only [d_nlt hlt, cond_false, List.take_length, Nat.sub_self, List.replicate_zero, List.append_nil]
    exact h

/-! laws.toShape -/
noncomputable def c_laws_toShape : Ctx := mkC Tryz.prog tyT [(46, s_laws_toNodeS)] [] [] 9 (fun _ => none) 0
theorem w_laws_toShape (s : ShapeD) (K : V → Heap → Prop) : wpFn c_laws_toShape Tryz.f26 (encAs [.agg tS] (s, ())) [] K =
  cond (decide (List.length s ≤ 1048576) && List.all s fitN)
    (K (.agg [(.vec (.pair (.int .i64) (.pair (.int .i64) (.pair (.int .i64) (.slice (.float .f32))))) (s))]) [])
    (False) := by kernel_rfl
noncomputable def s_laws_toShape : Sm := semG [.agg tS] (fun x => match x with | (s, _) => fitS s) fun x => match x with | (s, _) => .agg [.vec tN s]
theorem ok_laws_toShape : FnOk Tryz.prog 26 s_laws_toShape := fnOk_typedG (fnOk_runC (C := c_laws_toShape) rfl mixed (.cons ok_laws_toNodeS .nil) .nil .nil Tryz.func26 (by kernel_rfl)) fun (x : ((ShapeD) × Unit)) wf hg K h => by
  obtain ⟨s, ⟨⟩⟩ := x
  replace hg : (fitS s) = true := hg
  replace h : K (.agg [.vec tN s]) [] := h
  rw [w_laws_toShape s K]
  rw [show (decide (s.length ≤ 1048576) && s.all fitN) = true from hg]
  exact h



/-! laws.eqNode -/
noncomputable def c_laws_eqNode : Ctx := mkC Tryz.prog tyT [(102, s_laws_eqFloat32S)] [] [] 26 (fun _ => none) 0
theorem w_laws_eqNode (m n : NodeD) (K : V → Heap → Prop) : wpFn c_laws_eqNode Tryz.f83 (encAs [.agg tN, .agg tN] (m, n, ())) [] K =
  cond (Prod.fst m != Prod.fst n)
    (K (.bool false) [])
    (cond (Prod.fst (Prod.snd m) != Prod.fst (Prod.snd n))
      (K (.bool false) [])
      (cond (Prod.fst (Prod.snd (Prod.snd m)) != Prod.fst (Prod.snd (Prod.snd n)))
        (K (.bool false) [])
        (cond (Prod.snd (Prod.snd (Prod.snd m)) == Prod.snd (Prod.snd (Prod.snd n)))
          (K (.bool true) [])
          (False)))) := by kernel_rfl
noncomputable def s_laws_eqNode : Sm := semG [.agg tN, .agg tN] (fun x => match x with | (m, n, _) => m == n) fun x => match x with | (m, n, _) => .bool true
theorem ok_laws_eqNode : FnOk Tryz.prog 83 s_laws_eqNode := fnOk_typedG (fnOk_runC (C := c_laws_eqNode) rfl mixed (.cons ok_laws_eqFloat32S .nil) .nil .nil Tryz.func83 (by kernel_rfl)) fun (x : ((NodeD) × (NodeD) × Unit)) wf hg K h => by
  obtain ⟨m, n, ⟨⟩⟩ := x
  replace hg : (m == n) = true := hg
  replace h : K (.bool true) [] := h
  rw [w_laws_eqNode m n K]
  have e : m = n := by simpa using hg
  subst e
  simp only [beq_self_eq_true, bne_self_eq_false, cond_true, cond_false, Bool.not_true]
  exact h

/-! laws.eqNodeS -/
noncomputable def a_laws_eqNodeS : Nat → Option Ann := fun n => bif Nat.beq n 4 then some ⟨[0,1,5],0,false⟩ else none
noncomputable def c_laws_eqNodeS : Ctx := mkC Tryz.prog tyT [(83, s_laws_eqNode)] [] [] 27 a_laws_eqNodeS 0
noncomputable def fr_laws_eqNodeS_4 (xs ys : List (NodeD)) (i : Int) : Fr := [(0, .vec (tN) xs), (1, .vec (tN) ys), (5, .int .i64 i)]
theorem r_laws_eqNodeS_4 (xs ys : List (NodeD)) (i : Int) (Kn : Fr → Heap → Prop) (K : V → Heap → Prop) : round c_laws_eqNodeS ⟨[0,1,5],0,false⟩ (lb c_laws_eqNodeS 4 Tryz.f55) (fr_laws_eqNodeS_4 xs ys i) [] Kn (lk c_laws_eqNodeS 4 Tryz.f55 [] K) =
  cond (decide (i < (↑(List.length xs) : Int)))
    (cond (decide (0 ≤ i))
      ((match xs[Int.toNat i]? with
        | some y0 => cond (decide (0 ≤ i))
          ((match ys[Int.toNat i]? with
            | some y1 => cond (y0 == y1)
              (Kn [(0, (.vec (.pair (.int .i64) (.pair (.int .i64) (.pair (.int .i64) (.slice (.float .f32))))) (xs))), (1, (.vec (.pair (.int .i64) (.pair (.int .i64) (.pair (.int .i64) (.slice (.float .f32))))) (ys))), (5, (.int .i64 (IntKind.wrap IntKind.i64 (i + 1))))] [])
              (False)
            | none => False))
          (False)
        | none => False))
      (False))
    (K (.bool true) []) := by kernel_rfl
theorem w_laws_eqNodeS (xs ys : List (NodeD)) (K : V → Heap → Prop) : wpFn c_laws_eqNodeS Tryz.f55 (encAs [.cell (.slice (tN)), .cell (.slice (tN))] (xs, ys, ())) [] K =
  cond ((↑(List.length xs) : Int) != (↑(List.length ys) : Int))
    (K (.bool false) [])
    (LoopE c_laws_eqNodeS ⟨[0, 1, 5], 0, false⟩ (lb c_laws_eqNodeS 4 Tryz.f55) [(0, (.vec (.pair (.int .i64) (.pair (.int .i64) (.pair (.int .i64) (.slice (.float .f32))))) (xs))), (1, (.vec (.pair (.int .i64) (.pair (.int .i64) (.pair (.int .i64) (.slice (.float .f32))))) (ys))), (5, (.int .i64 0))] [] (lk c_laws_eqNodeS 4 Tryz.f55 [] K)) := by kernel_rfl
noncomputable def s_laws_eqNodeS : Sm := semG [.cell (.slice (tN)), .cell (.slice (tN))] (fun x => match x with | (xs, ys, _) => xs == ys) fun x => match x with | (xs, ys, _) => .bool true
theorem ok_laws_eqNodeS : FnOk Tryz.prog 55 s_laws_eqNodeS := fnOk_typedG (fnOk_runC (C := c_laws_eqNodeS) rfl mixed (.cons ok_laws_eqNode .nil) .nil .nil Tryz.func55 (by kernel_rfl)) fun (x : ((List (NodeD)) × (List (NodeD)) × Unit)) wf hg K h => by
  obtain ⟨xs, ys, ⟨⟩⟩ := x
  replace hg : (xs == ys) = true := hg
  replace h : K (.bool true) [] := h
  rw [w_laws_eqNodeS xs ys K]
  have e : xs = ys := by simpa using hg
  subst e
  obtain ⟨⟨wl, _⟩, _⟩ := wf
  rw [bne_self_eq_false, cond_false]
  refine loop_run (σ := Nat) (fun i => fr_laws_eqNodeS_4 xs xs i) (fun _ => []) (fun i => i ≤ xs.length) (fun i => xs.length - i) ?_ 0 (Nat.zero_le _)
  intro i hi Kn hk
  rw [r_laws_eqNodeS_4 xs xs i Kn K]
  by_cases hlt : i < xs.length
  · simp only [d_lt hlt, d_0, cond_true, Int.toNat_natCast, get_lt hlt, beq_self_eq_true]
    have hm : xs.length ≤ 9223372036854775807 := wl
    rw [i64_of (by omega) (by omega)]
    exact hk (i + 1) hlt (by omega)
  · simp only [d_nlt hlt, cond_false]
    exact h

/-! laws.eqShape -/
noncomputable def c_laws_eqShape : Ctx := mkC Tryz.prog tyT [(55, s_laws_eqNodeS)] [] [] 11 (fun _ => none) 0
theorem w_laws_eqShape (m n : ShapeD) (K : V → Heap → Prop) : wpFn c_laws_eqShape Tryz.f34 (encAs [.agg tS, .agg tS] (m, n, ())) [] K =
  cond (m == n)
    (K (.bool true) [])
    (False) := by kernel_rfl
noncomputable def s_laws_eqShape : Sm := semG [.agg tS, .agg tS] (fun x => match x with | (m, n, _) => m == n) fun x => match x with | (m, n, _) => .bool true
theorem ok_laws_eqShape : FnOk Tryz.prog 34 s_laws_eqShape := fnOk_typedG (fnOk_runC (C := c_laws_eqShape) rfl mixed (.cons ok_laws_eqNodeS .nil) .nil .nil Tryz.func34 (by kernel_rfl)) fun (x : ((ShapeD) × (ShapeD) × Unit)) wf hg K h => by
  obtain ⟨m, n, ⟨⟩⟩ := x
  replace hg : (m == n) = true := hg
  replace h : K (.bool true) [] := h
  rw [w_laws_eqShape m n K]
  rw [hg]; exact h


theorem fitS_of {s : ShapeD} (h : wShape s ≤ 1048576) : fitS s = true := by
  unfold fitS
  have h1 := wList_ge wNode s
  simp only [Bool.and_eq_true, decide_eq_true_eq]
  refine ⟨by unfold wShape at h; omega, List.all_eq_true.2 fun n hn => decide_eq_true ?_⟩
  have := mem_le wNode hn
  unfold wShape wList at h
  have e : wNode n = n.2.2.2.length := rfl
  omega

end Go.Proofs.YtkppbbaibjhkaaaGreat
