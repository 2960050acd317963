/- Numbers below 1 have no whole part. -/
import Derived.Test.YtkdkcdkjfiabfaaFlK
import Derived.Test.YtkdkcdkjfiabfaaFlP
set_option linter.unusedVariables false
set_option linter.unusedSimpArgs false
namespace Go.Ev
open Ieee
namespace Fl
theorem trunc_small {v : Nat} (hf : fin .f64 v = true) (h1 : -1 < ev .f64 v) (h2 : ev .f64 v < 1) : feq .f64 (fwhole .zero v) 0 = true := by
  obtain ⟨m, e, e1, e2⟩ := read_fin hf
  have nn : 0 ≤ (m : Rat) * pw e := Rat.mul_nonneg Rat.natCast_nonneg (Rat.le_of_lt (pw_pos _))
  have hv : ev .f64 v = sgd (sg .f64 v) ((m : Rat) * pw e) := by rw [e2]; rfl
  have hlt : (m : Rat) * pw e < 1 := by
    rw [hv] at h1 h2
    cases s : sg .f64 v <;> rw [s] at h1 h2 <;> simp only [sgd, cond_true, cond_false] at h1 h2 <;> grind
  obtain ⟨p1, p2⟩ := whole_part m e
  unfold fwhole FloatKind.decode FloatKind.encode
  rw [fin_nan hf, cond_false, e1]
  simp only [Datum.integral, Format.write]
  rw [cut_zero]
  have : m <<< e.toNat / 2 ^ (-e).toNat = 0 := by
    generalize m <<< e.toNat / 2 ^ (-e).toNat = n at *
    have : (n : Rat) < ((1 : Nat) : Rat) := by
      have : ((1 : Nat) : Rat) = 1 := rfl
      grind
    have := Rat.natCast_lt_natCast.1 this
    omega
  rw [this]
  cases sg .f64 v <;> decide +kernel
theorem one_ev : ev .f64 4607182418800017408 = 1 := by
  have h1 := ap_one.lo
  have h2 := ap_one.hi
  have z : ((0 : Nat) : Rat) = 0 := rfl
  have w : ((1152921504606846976 : Int) : Rat) = W := rfl
  rw [z, w] at h1 h2
  have hW := W_pos
  have e : ev .f64 4607182418800017408 * W = W := by grind
  have hne : W ≠ 0 := by grind
  have : ev .f64 4607182418800017408 * W * W⁻¹ = W * W⁻¹ := by rw [e]
  rwa [Rat.mul_assoc, Rat.mul_inv_cancel _ hne, Rat.mul_one] at this
theorem sinOk_trunc {z : Nat} (h : sinOk z = true) (hl : z < 2 * signOf .f32) : feq .f64 (fwhole .zero (widen z)) 0 = true ∧ nan .f64 (widen z) = false ∧ fge .f64 (abs64 (widen z)) 4841369599423283200 = false ∧ fin .f32 z = true ∧ ovf (sine64 z) = false := by
  unfold sinOk at h
  simp only [Bool.and_eq_true, Bool.not_eq_true'] at h
  obtain ⟨h1, h2, h3⟩ := h
  have hx := widen_ex (b := z) (q := ev .f32 z) ⟨h1, hl, rfl⟩
  have hab : abs64 (widen z) = rung .f64 (widen z) := rfl
  have hrr : rung .f64 (abs64 (widen z)) = rung .f64 (widen z) := by rw [hab]; unfold rung; exact Nat.mod_mod _ _
  have hev : ev .f64 (abs64 (widen z)) = mg FloatKind.f64.format (rung .f64 (widen z)) := by unfold ev; rw [abs_sg, hrr]; rfl
  have hfa : fin .f64 (abs64 (widen z)) = true := by rw [fin_iff, hrr]; exact fin_iff.1 hx.f
  rw [flt_ev (fin_nan hfa) (by decide +kernel), decide_eq_true_eq, one_ev, hev] at h2
  have hw : ev .f64 (widen z) = sgd (sg .f64 (widen z)) (mg FloatKind.f64.format (rung .f64 (widen z))) := rfl
  have h0 := mg_nonneg FloatKind.f64.format (rung .f64 (widen z))
  refine ⟨trunc_small hx.f ?_ ?_, hx.nan, ?_, h1, h3⟩
  · rw [hw]; cases sg .f64 (widen z) <;> simp only [sgd, cond_true, cond_false] <;> grind
  · rw [hw]; cases sg .f64 (widen z) <;> simp only [sgd, cond_true, cond_false] <;> grind
  · have hc : flt .f64 4607182418800017408 4841369599423283200 = true := by decide +kernel
    rw [flt_ev (by decide +kernel) (by decide +kernel), decide_eq_true_eq, one_ev] at hc
    rw [fge_ev (fin_nan hfa) (by decide +kernel), decide_eq_false]
    rw [hev]
    exact Rat.not_le.2 (by grind)
end Fl
end Go.Ev
