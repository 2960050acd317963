/- Vectors and lists: equality, copies, sizes. -/
import Derived.Test.YtmkomfhnomnbiaaPre
set_option linter.unusedVariables false
set_option linter.unusedSimpArgs false
set_option maxRecDepth 100000
namespace Go.Proofs.Ytmkomfhnomnbiaa
open Go.Ev
abbrev tI : Ty := .int .i64

/-! sizes -/
--B szV Int → Nat → Int
def szV (n : Int) (w : Nat) : Int := bif decide (n - (w : Int) < 0) then (-1) else n - w
theorem szV_no {n : Int} {w : Nat} (h : n - (w : Int) < 0) : szV n w = -1 := by unfold szV; rw [d_t h]; rfl
theorem szV_ok {n : Int} {w : Nat} (h : 0 ≤ n - (w : Int)) : szV n w = n - w := by unfold szV; rw [d_f (by omega)]; rfl
--B wList {α : Type} → (α → Nat) → List α → Nat
def wList {α : Type} (w : α → Nat) (xs : List α) : Nat := xs.length + (xs.map w).sum
theorem wList_ge {α : Type} (w : α → Nat) (xs : List α) : xs.length ≤ wList w xs := by unfold wList; omega
theorem sum_take {α : Type} (w : α → Nat) {xs : List α} {i : Nat} (hi : i < xs.length) : ((xs.take (i + 1)).map w).sum = ((xs.take i).map w).sum + w (xs[i]'hi) := by
  rw [take_one hi, List.map_append, List.sum_append]
  simp
theorem sum_le {α : Type} (w : α → Nat) : ∀ (xs : List α) (i : Nat), ((xs.take i).map w).sum ≤ (xs.map w).sum
  | [], i => by simp
  | x :: xs, 0 => by simp
  | x :: xs, i + 1 => by
    have := sum_le w xs i
    simp only [List.take_succ_cons, List.map_cons, List.sum_cons]
    omega
theorem mem_le {α : Type} (w : α → Nat) {xs : List α} {x : α} (h : x ∈ xs) : w x ≤ (xs.map w).sum := by
  induction xs with
  | nil => cases h
  | cons y xs ih =>
    simp only [List.map_cons, List.sum_cons]
    rcases List.mem_cons.1 h with e | e
    · subst e; omega
    · have := ih e; omega

/-! slices.EqualFunc[[]float32,[]float32,float32,float32] -/
noncomputable def a_slices_EqualFunc__float32 : Nat → Option Ann := fun n => bif Nat.beq n 4 then some ⟨[1,2,15,16,17],0,false⟩ else none
noncomputable def c_slices_EqualFunc__float32 : Ctx := mkC Try.prog tyT [(58, s_impl_SameNumber)] [] [] 32 a_slices_EqualFunc__float32 0
noncomputable def fr_slices_EqualFunc__float32_4 (xs ys : List (Nat)) (n i : Int) : Fr := [(1, .vec (tF) ys), (2, .fn 58 []), (15, .vec (tF) xs), (16, .int .i64 n), (17, .int .i64 i)]
theorem r_slices_EqualFunc__float32_4 (xs ys : List (Nat)) (n i : Int) (Kn : Fr → Heap → Prop) (K : V → Heap → Prop) : round c_slices_EqualFunc__float32 ⟨[1,2,15,16,17],0,false⟩ (lb c_slices_EqualFunc__float32 4 Try.f57) (fr_slices_EqualFunc__float32_4 xs ys n i) [] Kn (lk c_slices_EqualFunc__float32 4 Try.f57 [] K) =
  cond (decide (i < n))
    (cond (decide (0 ≤ i))
      ((match xs[Int.toNat i]? with
        | some y0 => cond (decide (0 ≤ i))
          ((match ys[Int.toNat i]? with
            | some y1 => cond (!y0 == y1)
              (K (.bool false) [])
              (Kn [(1, (.vec (.float .f32) (ys))), (2, (.fn 58 [])), (15, (.vec (.float .f32) (xs))), (16, (.int .i64 (n))), (17, (.int .i64 (IntKind.wrap IntKind.i64 (i + 1))))] [])
            | none => False))
          (False)
        | none => False))
      (False))
    (K (.bool true) []) := by kernel_rfl
theorem w_slices_EqualFunc__float32 (xs ys : List (Nat)) (K : V → Heap → Prop) : wpFn c_slices_EqualFunc__float32 Try.f57 (encAs [.cell (.slice (tF)), .cell (.slice (tF)), .fn 58] (xs, ys, (), ())) [] K =
  cond ((↑(List.length xs) : Int) != (↑(List.length ys) : Int))
    (K (.bool false) [])
    (LoopE c_slices_EqualFunc__float32 ⟨[1, 2, 15, 16, 17], 0, false⟩ (lb c_slices_EqualFunc__float32 4 Try.f57) [(1, (.vec (.float .f32) (ys))), (2, (.fn 58 [])), (15, (.vec (.float .f32) (xs))), (16, (.int .i64 ((↑(List.length xs) : Int)))), (17, (.int .i64 0))] [] (lk c_slices_EqualFunc__float32 4 Try.f57 [] K)) := by kernel_rfl
noncomputable def s_slices_EqualFunc__float32 : Sm := semT [.cell (.slice (tF)), .cell (.slice (tF)), .fn 58] fun x => match x with | (xs, ys, _, _) => .bool (xs == ys)
theorem ok_slices_EqualFunc__float32 : FnOk Try.prog 57 s_slices_EqualFunc__float32 := fnOk_typed (fnOk_runC (C := c_slices_EqualFunc__float32) rfl mixed (.cons ok_impl_SameNumber .nil) .nil .nil Try.func57 (by kernel_rfl)) fun (x : ((List (Nat)) × (List (Nat)) × Unit × Unit)) wf K h => by
  obtain ⟨xs, ys, ⟨⟩, ⟨⟩⟩ := x
  replace h : K (.bool (xs == ys)) [] := h
  rw [w_slices_EqualFunc__float32 xs ys K]
  obtain ⟨⟨wl, _⟩, _⟩ := wf
  have wl : xs.length ≤ 9223372036854775807 := wl
  rw [bne_cast]
  by_cases hl : xs.length = ys.length
  · rw [show (xs.length != ys.length) = false by rw [hl]; exact bne_self_eq_false _]
    simp only [cond_false]
    refine loop_run (σ := Nat) (fun i => fr_slices_EqualFunc__float32_4 xs ys xs.length i) (fun _ => []) (fun i => i ≤ ys.length ∧ xs.take i = ys.take i) (fun i => ys.length - i) ?_ 0 ⟨Nat.zero_le _, rfl⟩
    intro i hi Kn hk
    rw [r_slices_EqualFunc__float32_4 xs ys xs.length i Kn K]
    by_cases hlt : i < ys.length
    · have hlx : i < xs.length := by omega
      simp only [d_lt hlx, d_0, cond_true, Int.toNat_natCast, get_lt hlt, get_lt hlx]
      by_cases he : xs[i]'hlx = ys[i]'hlt
      · simp only [he, beq_self_eq_true, Bool.not_true, cond_false]
        rw [i64_of (by omega) (by omega)]
        refine hk (i + 1) ⟨hlt, ?_⟩ (by omega)
        rw [take_one hlx, take_one hlt, hi.2, he]
      · have hb : (xs[i]'hlx == ys[i]'hlt) = false := beq_eq_false_iff_ne.2 he
        simp only [hb, Bool.not_false, cond_true]
        have hne : (xs == ys) = false := beq_eq_false_iff_ne.2 fun e => he (by simp only [e])
        rw [hne] at h; exact h
    · have hlx : ¬ i < xs.length := by omega
      simp only [d_nlt hlx, cond_false]
      have : xs = ys := by
        have := hi.2
        rwa [List.take_of_length_le (by omega), List.take_of_length_le (by omega)] at this
      rw [this, beq_self_eq_true] at h; exact h
  · have : (xs.length != ys.length) = true := by simp [hl]
    simp only [this, cond_true]
    have hne : (xs == ys) = false := beq_eq_false_iff_ne.2 fun e => hl (by rw [e])
    rw [hne] at h; exact h

/-! impl.sameList -/
noncomputable def c_impl_sameList : Ctx := mkC Try.prog tyT [(57, s_slices_EqualFunc__float32)] [] [] 8 (fun _ => none) 0
theorem w_impl_sameList (xs ys : List Nat) (K : V → Heap → Prop) : wpFn c_impl_sameList Try.f39 (encAs [.cell (.slice tF), .cell (.slice tF)] (xs, ys, ())) [] K =
  K (.bool (xs == ys)) [] := by kernel_rfl
noncomputable def s_impl_sameList : Sm := semT [.cell (.slice tF), .cell (.slice tF)] fun x => match x with | (xs, ys, _) => .bool (xs == ys)
theorem ok_impl_sameList : FnOk Try.prog 39 s_impl_sameList := fnOk_typed (fnOk_runC (C := c_impl_sameList) rfl mixed (.cons ok_slices_EqualFunc__float32 .nil) .nil .nil Try.func39 (by kernel_rfl)) fun (x : ((List Nat) × (List Nat) × Unit)) wf K h => by
  obtain ⟨xs, ys, ⟨⟩⟩ := x
  replace h : K (.bool (xs == ys)) [] := h
  rw [w_impl_sameList xs ys K]
  exact h






















end Go.Proofs.Ytmkomfhnomnbiaa
