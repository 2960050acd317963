/- Names: when they are valid. -/
import Derived.Test.YtmkomfhnomnbiaaShapes
set_option linter.unusedVariables false
set_option linter.unusedSimpArgs false
set_option maxRecDepth 100000
namespace Go.Proofs.Ytmkomfhnomnbiaa
open Go.Ev

abbrev Str := List UInt8
--B lower UInt8 → Bool
def lower (b : UInt8) : Bool := !(decide ((b.toNat : Int) < 97) || decide ((b.toNat : Int) > 122))
--B nameB Str → Bool
def nameB (s : Str) : Bool := s.all lower && (decide ((s.length : Int) ≥ 1) && decide ((s.length : Int) ≤ 8))
theorem all_snoc {α : Type} {f : α → Bool} {xs : List α} {i : Nat} (hi : i < xs.length) (h : (xs.take i).all f = true) (hp : f (xs[i]'hi) = true) : (xs.take (i + 1)).all f = true := by
  rw [take_one hi, List.all_append, h]
  simp [hp]
theorem all_no {α : Type} {f : α → Bool} {xs : List α} {i : Nat} (hi : i < xs.length) (h : f (xs[i]'hi) = false) : xs.all f = false :=
  List.all_eq_false.2 ⟨_, List.getElem_mem hi, by simp [h]⟩

/-! impl.IsName -/
noncomputable def a_impl_IsName : Nat → Option Ann := fun n => bif Nat.beq n 2 then some ⟨[0,5,6],0,false⟩ else none
noncomputable def c_impl_IsName : Ctx := mkC Try.prog tyT [] [] [] 28 a_impl_IsName 0
noncomputable def fr_impl_IsName_2 (s : Str) (n i : Int) : Fr := [(0, .str s), (5, .int .i64 n), (6, .int .i64 i)]
theorem r_impl_IsName_2 (s : Str) (n i : Int) (Kn : Fr → Heap → Prop) (K : V → Heap → Prop) : round c_impl_IsName ⟨[0,5,6],0,false⟩ (lb c_impl_IsName 2 Try.f31) (fr_impl_IsName_2 s n i) [] Kn (lk c_impl_IsName 2 Try.f31 [] K) =
  cond (decide (i < n))
    (cond (decide (0 ≤ i))
      ((match s[Int.toNat i]? with
        | some b0 => cond (decide ((↑(UInt8.toNat b0) : Int) < 97))
          (K (.bool false) [])
          (cond (decide (0 ≤ i))
            ((match s[Int.toNat i]? with
              | some b1 => cond (decide ((↑(UInt8.toNat b1) : Int) > 122))
                (K (.bool false) [])
                (Kn [(0, (.str (s))), (5, (.int .i64 (n))), (6, (.int .i64 (IntKind.wrap IntKind.i64 (i + 1))))] [])
              | none => False))
            (False))
        | none => False))
      (False))
    (cond (decide ((↑(List.length s) : Int) ≥ 1))
      (K (.bool (decide ((↑(List.length s) : Int) ≤ 8))) [])
      (K (.bool false) [])) := by kernel_rfl
theorem w_impl_IsName (s : Str) (K : V → Heap → Prop) : wpFn c_impl_IsName Try.f31 (encAs [.cell .str] (s, ())) [] K =
  LoopE c_impl_IsName ⟨[0, 5, 6], 0, false⟩ (lb c_impl_IsName 2 Try.f31) [(0, (.str (s))), (5, (.int .i64 ((↑(List.length s) : Int)))), (6, (.int .i64 0))] [] (lk c_impl_IsName 2 Try.f31 [] K) := by kernel_rfl
noncomputable def s_impl_IsName : Sm := semT [.cell .str] fun x => match x with | (s, _) => .bool (nameB s)
theorem ok_impl_IsName : FnOk Try.prog 31 s_impl_IsName := fnOk_typed (fnOk_runC (C := c_impl_IsName) rfl mixed .nil .nil .nil Try.func31 (by kernel_rfl)) fun (x : ((Str) × Unit)) wf K h => by
  obtain ⟨s, ⟨⟩⟩ := x
  replace h : K (.bool (nameB s)) [] := h
  rw [w_impl_IsName s K]
  obtain ⟨wl, _⟩ := wf
  have wl : s.length ≤ 9223372036854775807 := wl
  refine loop_run (σ := Nat) (fun i => fr_impl_IsName_2 s s.length i) (fun _ => []) (fun i => i ≤ s.length ∧ (s.take i).all lower = true) (fun i => s.length - i) ?_ 0 ⟨Nat.zero_le _, rfl⟩
  intro i hi Kn hk
  rw [r_impl_IsName_2 s s.length i Kn K]
  by_cases hlt : i < s.length
  · simp only [d_lt hlt, d_0, cond_true, Int.toNat_natCast, get_lt hlt]
    have no : lower (s[i]'hlt) = false → K (.bool false) [] := fun e => by
      unfold nameB at h
      rw [all_no hlt e] at h
      exact h
    cases e1 : decide (((s[i]'hlt).toNat : Int) < 97) with
    | true => exact no (by unfold lower; rw [e1]; rfl)
    | false =>
      simp only [cond_false]
      cases e2 : decide (((s[i]'hlt).toNat : Int) > 122) with
      | true => exact no (by unfold lower; rw [e1, e2]; rfl)
      | false =>
        simp only [cond_false]
        rw [i64_of (by omega) (by omega)]
        exact hk (i + 1) ⟨hlt, all_snoc hlt hi.2 (by unfold lower; rw [e1, e2]; rfl)⟩ (by omega)
  · have : i = s.length := by omega
    subst this
    simp only [d_nlt hlt, cond_false]
    have ha := hi.2
    rw [List.take_length] at ha
    unfold nameB at h
    rw [ha] at h
    revert h
    cases decide ((s.length : Int) ≥ 1) <;> exact id


end Go.Proofs.Ytmkomfhnomnbiaa
