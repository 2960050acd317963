/- Vectors and lists: equality, copies, sizes. -/
import Derived.Test.YtbbkhjeohfdcaaaPre
set_option linter.unusedVariables false
set_option linter.unusedSimpArgs false
set_option maxRecDepth 100000
namespace Go.Proofs.Ytbbkhjeohfdcaaa
open Go.Ev
abbrev tI : Ty := .int .i64

/-! sizes -/
--B szV Int → Nat → Int
def szV (n : Int) (w : Nat) : Int := bif decide (n - (w : Int) < 0) then (-1) else n - w
theorem szV_no {n : Int} {w : Nat} (h : n - (w : Int) < 0) : szV n w = -1 := by unfold szV; rw [d_t h]; rfl
theorem szV_ok {n : Int} {w : Nat} (h : 0 ≤ n - (w : Int)) : szV n w = n - w := by unfold szV; rw [d_f (by omega)]; rfl
--B wList {α : Type} → (α → Nat) → List α → Nat
def wList {α : Type} (w : α → Nat) (xs : List α) : Nat := xs.length + (xs.map w).sum
theorem wList_ge {α : Type} (w : α → Nat) (xs : List α) : xs.length ≤ wList w xs := by unfold wList; omega
theorem sum_take {α : Type} (w : α → Nat) {xs : List α} {i : Nat} (hi : i < xs.length) : ((xs.take (i + 1)).map w).sum = ((xs.take i).map w).sum + w (xs[i]'hi) := by
  rw [take_one hi, List.map_append, List.sum_append]
  simp
theorem sum_le {α : Type} (w : α → Nat) : ∀ (xs : List α) (i : Nat), ((xs.take i).map w).sum ≤ (xs.map w).sum
  | [], i => by simp
  | x :: xs, 0 => by simp
  | x :: xs, i + 1 => by
    have := sum_le w xs i
    simp only [List.take_succ_cons, List.map_cons, List.sum_cons]
    omega
theorem mem_le {α : Type} (w : α → Nat) {xs : List α} {x : α} (h : x ∈ xs) : w x ≤ (xs.map w).sum := by
  induction xs with
  | nil => cases h
  | cons y xs ih =>
    simp only [List.map_cons, List.sum_cons]
    rcases List.mem_cons.1 h with e | e
    · subst e; omega
    · have := ih e; omega







/-! laws.sameFloat -/
noncomputable def c_laws_sameFloat : Ctx := mkC Try.prog tyT [] [] [] 37 (fun _ => none) 0
theorem w_laws_sameFloat (a b : Nat) (K : V → Heap → Prop) : wpFn c_laws_sameFloat Try.f60 (encAs [.cell (.float .f64), .cell (.float .f64)] (a, b, ())) [] K =
  cond (!feq FloatKind.f64 a a)
    (cond (!feq FloatKind.f64 a a)
      (K (.bool (!feq FloatKind.f64 b b)) [])
      (K (.bool false) []))
    (cond (!feq FloatKind.f64 b b)
      (cond (!feq FloatKind.f64 a a)
        (K (.bool (!feq FloatKind.f64 b b)) [])
        (K (.bool false) []))
      (cond (feq FloatKind.f64 a 0)
        (cond (feq FloatKind.f64 b 0)
          (K (.bool (fgt FloatKind.f64 (fdiv FloatKind.f64 4607182418800017408 a) 0 == fgt FloatKind.f64 (fdiv FloatKind.f64 4607182418800017408 b) 0)) [])
          (K (.bool (feq FloatKind.f64 a b)) []))
        (K (.bool (feq FloatKind.f64 a b)) []))) := by kernel_rfl
noncomputable def s_laws_sameFloat : Sm := semG [.cell (.float .f64), .cell (.float .f64)] (fun x => match x with | (a, b, _) => a == b) fun x => match x with | (a, b, _) => .bool true
theorem ok_laws_sameFloat : FnOk Try.prog 60 s_laws_sameFloat := fnOk_typedG (fnOk_runC (C := c_laws_sameFloat) rfl mixed .nil .nil .nil Try.func60 (by kernel_rfl)) fun (x : ((Nat) × (Nat) × Unit)) wf hg K h => by
  obtain ⟨a, b, ⟨⟩⟩ := x
  replace hg : (a == b) = true := hg
  replace h : K (.bool true) [] := h
  rw [w_laws_sameFloat a b K]
  have e : a = b := by simpa using hg
  subst e
  rw [feq_self]
  cases nan .f64 a <;> simp only [Bool.not_true, Bool.not_false, cond_true, cond_false, beq_self_eq_true]
  · cases feq .f64 a 0 <;> exact h
  · exact h



/-! laws.eqFloat32S -/
noncomputable def a_laws_eqFloat32S : Nat → Option Ann := fun n => bif Nat.beq n 4 then some ⟨[0,1,5],0,false⟩ else none
noncomputable def c_laws_eqFloat32S : Ctx := mkC Try.prog tyT [(60, s_laws_sameFloat)] [] [] 29 a_laws_eqFloat32S 0
noncomputable def fr_laws_eqFloat32S_4 (xs ys : List (Nat)) (i : Int) : Fr := [(0, .vec (tF) xs), (1, .vec (tF) ys), (5, .int .i64 i)]
theorem r_laws_eqFloat32S_4 (xs ys : List (Nat)) (i : Int) (Kn : Fr → Heap → Prop) (K : V → Heap → Prop) : round c_laws_eqFloat32S ⟨[0,1,5],0,false⟩ (lb c_laws_eqFloat32S 4 Try.f52) (fr_laws_eqFloat32S_4 xs ys i) [] Kn (lk c_laws_eqFloat32S 4 Try.f52 [] K) =
  cond (decide (i < (↑(List.length xs) : Int)))
    (cond (decide (0 ≤ i))
      ((match xs[Int.toNat i]? with
        | some y0 => cond (decide (0 ≤ i))
          ((match ys[Int.toNat i]? with
            | some y1 => cond (widen y0 == widen y1)
              (Kn [(0, (.vec (.float .f32) (xs))), (1, (.vec (.float .f32) (ys))), (5, (.int .i64 (IntKind.wrap IntKind.i64 (i + 1))))] [])
              (False)
            | none => False))
          (False)
        | none => False))
      (False))
    (K (.bool true) []) := by kernel_rfl
theorem w_laws_eqFloat32S (xs ys : List (Nat)) (K : V → Heap → Prop) : wpFn c_laws_eqFloat32S Try.f52 (encAs [.cell (.slice (tF)), .cell (.slice (tF))] (xs, ys, ())) [] K =
  cond ((↑(List.length xs) : Int) != (↑(List.length ys) : Int))
    (K (.bool false) [])
    (LoopE c_laws_eqFloat32S ⟨[0, 1, 5], 0, false⟩ (lb c_laws_eqFloat32S 4 Try.f52) [(0, (.vec (.float .f32) (xs))), (1, (.vec (.float .f32) (ys))), (5, (.int .i64 0))] [] (lk c_laws_eqFloat32S 4 Try.f52 [] K)) := by kernel_rfl
noncomputable def s_laws_eqFloat32S : Sm := semG [.cell (.slice (tF)), .cell (.slice (tF))] (fun x => match x with | (xs, ys, _) => xs == ys) fun x => match x with | (xs, ys, _) => .bool true
theorem ok_laws_eqFloat32S : FnOk Try.prog 52 s_laws_eqFloat32S := fnOk_typedG (fnOk_runC (C := c_laws_eqFloat32S) rfl mixed (.cons ok_laws_sameFloat .nil) .nil .nil Try.func52 (by kernel_rfl)) fun (x : ((List (Nat)) × (List (Nat)) × Unit)) wf hg K h => by
  obtain ⟨xs, ys, ⟨⟩⟩ := x
  replace hg : (xs == ys) = true := hg
  replace h : K (.bool true) [] := h
  rw [w_laws_eqFloat32S xs ys K]
  have e : xs = ys := by simpa using hg
  subst e
  obtain ⟨⟨wl, _⟩, _⟩ := wf
  rw [bne_self_eq_false, cond_false]
  refine loop_run (σ := Nat) (fun i => fr_laws_eqFloat32S_4 xs xs i) (fun _ => []) (fun i => i ≤ xs.length) (fun i => xs.length - i) ?_ 0 (Nat.zero_le _)
  intro i hi Kn hk
  rw [r_laws_eqFloat32S_4 xs xs i Kn K]
  by_cases hlt : i < xs.length
  · simp only [d_lt hlt, d_0, cond_true, Int.toNat_natCast, get_lt hlt, beq_self_eq_true]
    have hm : xs.length ≤ 9223372036854775807 := wl
    rw [i64_of (by omega) (by omega)]
    exact hk (i + 1) hlt (by omega)
  · simp only [d_nlt hlt, cond_false]
    exact h














end Go.Proofs.Ytbbkhjeohfdcaaa
