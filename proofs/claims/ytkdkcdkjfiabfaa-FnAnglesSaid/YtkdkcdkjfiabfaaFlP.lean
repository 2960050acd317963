/- Angles of points on the axes; and all points together. -/
import Derived.Test.YtkdkcdkjfiabfaaFlO
set_option linter.unusedVariables false
set_option linter.unusedSimpArgs false
set_option maxRecDepth 20000
namespace Go.Ev
open Ieee
namespace Fl

theorem fdiv_zero {B : Nat} {n : Int} (hB : Ap .f64 B n 0) (h1 : 1 ≤ n) (hs : sg .f64 B = false) : fdiv .f64 0 B = 0 := by
  obtain ⟨m, e, r1, r2⟩ := read_fin hB.f
  have h0 : FloatKind.f64.format.read 0 = .number false 0 FloatKind.f64.format.leastPlace := by decide +kernel
  have hm : m ≠ 0 := by
    rintro rfl
    rw [show ((0 : Nat) : Rat) = 0 from rfl, Rat.zero_mul] at r2
    have lo := hB.lo
    have hev : ev .f64 B = 0 := by unfold ev; rw [← r2, hs]; rfl
    rw [hev, Rat.zero_mul] at lo
    have := Rat.intCast_le_intCast.2 h1
    have z : ((0 : Nat) : Rat) = 0 := rfl
    have o : ((1 : Int) : Rat) = 1 := rfl
    rw [z] at lo
    rw [o] at this
    grind
  unfold fdiv Format.div
  rw [h0, r1, hs]
  simp only [Datum.quotient, if_neg hm, Nat.zero_shiftLeft, Nat.zero_div, Nat.zero_mod]
  rfl
theorem abs_sg (x : Nat) : sg .f64 (abs64 x) = false := by
  have : abs64 x < 9223372036854775808 := Nat.mod_lt _ (by decide)
  unfold sg
  rw [show signOf .f64 = 9223372036854775808 from rfl, Nat.div_eq_of_lt this]; rfl
theorem axis_zero : angG (angTs 0 3) = 0 := by decide +kernel
theorem sq_ax (a : Nat) : ((((a * 72057594037927936 : Nat) : Int) * ((a * 72057594037927936 : Nat) : Int) - ((a * a * 4503599627370496 : Nat) : Int) * 1152921504606846976).natAbs) = 0 := by
  have e : a * 72057594037927936 * (a * 72057594037927936) = a * a * 4503599627370496 * 1152921504606846976 := by
    rw [Nat.mul_mul_mul_comm, Nat.mul_assoc (a * a)]
  have e := congrArg (fun n : Nat => (n : Int)) e
  simp only [Int.natCast_mul] at e ⊢
  omega
theorem root_ax {lx a : Nat} (h1 : 1 ≤ a) (h2 : a ≤ 64) (hl : Ap .f32 lx ((a * a * 4503599627370496 : Nat) : Int) 0) : Ap .f64 (widen (rootN lx)) ((a * 72057594037927936 : Nat) : Int) 549755815297 := by
  have hq := sq_ax a
  have h3 : 1 ≤ a * a := Nat.mul_le_mul h1 h1
  have A := hl.widen.sqrt (by omega) ((a * 72057594037927936 : Nat) : Int) 1 0 0 (by omega) (by decide) (by rw [hq]; exact Nat.zero_le _) (by decide) (by omega)
  exact ((A.narrow' (by omega)).1.widen).le (by decide)

/-- A product with a sine that is 0, 1 or -1. -/
theorem hx1 : 0 * 4611686018427387904 + 549755815297 * 1152921504606846976 + 0 * 549755815297 + 1152921504606846976 ≤ 549755815300 * 1152921504606846976 := by decide
theorem ax_side {w L y : Nat} {u : Int} {m M : Int} (hw : Ap .f64 w (u * 1152921504606846976) 0) (hu : u = 0 ∨ u = 1 ∨ u = -1) (hL : Ap .f64 L M 549755815297) (hM : M.natAbs ≤ 4611686018427387904) (hy : Ap .f64 y m 0) (hm : m = u * M) : fgt .f64 (gapN (fmul .f64 w L) y) 4547007122018943789 = false := by
  have e : u * 1152921504606846976 * M / 1152921504606846976 = u * M := by
    rw [Int.mul_right_comm]
    exact Int.mul_ediv_cancel _ (by decide)
  have hb : (u * M).natAbs ≤ 4611686018427387904 := by
    rcases hu with rfl | rfl | rfl
    · simp
    · rw [Int.one_mul]; exact hM
    · rw [Int.neg_one_mul]; omega
  have B := hw.mul hL 1152921504606846976 4611686018427387904 549755815300 (by rcases hu with rfl | rfl | rfl <;> decide) hM hx1 (by rw [e]; omega)
  rw [e] at B
  exact gap_ok B hy (by rw [hm]; omega)
theorem apW_one : Ap .f64 (widen 1065353216) (1 * 1152921504606846976) 0 := by
  rw [show widen 1065353216 = 4607182418800017408 by decide +kernel]; exact ap_one
theorem apW_neg : Ap .f64 (widen 3212836864) (-1 * 1152921504606846976) 0 := by
  rw [show widen 3212836864 = fneg .f64 4607182418800017408 by decide +kernel]; exact ap_one.neg
theorem apW_zero : Ap .f64 (widen 0) (0 * 1152921504606846976) 0 := by
  rw [show widen 0 = 0 by decide +kernel]; exact ap_zero
theorem apW_negz : Ap .f64 (widen 2147483648) (0 * 1152921504606846976) 0 := by
  rw [show widen 2147483648 = fneg .f64 0 by decide +kernel]; exact ap_zero.neg

theorem axis_x {x lx : Nat} {i : Int} (hx : Ap .f32 x (i * 72057594037927936) 0) (hi : i ≠ 0) (hi2 : i.natAbs ≤ 64) (hl : Ap .f32 lx ((i.natAbs * i.natAbs * 4503599627370496 : Nat) : Int) 0) : PtLaw 0 x lx := by
  obtain ⟨N, eN, N1, N3, N2⟩ := m_all hi hi2
  have L := root_ax (by omega) hi2 hl
  rw [← eN] at L
  have hB := abs_ap hx.widen
  generalize i * 72057594037927936 = I at *
  have hBz : ∀ y, abs64 (widen y) = 0 → angW y x = 0 := by
    intro y hy0
    unfold angW
    dsimp only
    rw [hy0, ap_zero.fgt_f hB (by omega)]
    simp only [cond_false]
    rw [fdiv_zero hB (by omega) (abs_sg _)]
    exact axis_zero
  have h0 := hBz 0 (by decide +kernel)
  have h1 := hBz (fneg .f32 0) (by decide +kernel)
  have f0 : flt .f32 0 0 = false := by decide +kernel
  have f1 : flt .f32 (fneg .f32 0) 0 = false := by decide +kernel
  rcases N2 with rfl | rfl
  · have fx := hx.flt_f ap32_zero (by omega)
    have e1 : ang64 0 x = 0 := by rw [ang64_eq, h0, fx, f0]; rfl
    have e2 : ang64 (fneg .f32 0) x = 0 := by rw [ang64_eq, h1, fx, f1]; rfl
    have ea : angleN 0 x = 0 := by unfold angleN; rw [e1]; decide +kernel
    refine ⟨by rw [e1]; decide +kernel, by rw [e2]; decide +kernel, by rw [ea]; decide +kernel, by rw [ea]; decide +kernel, by rw [ea]; decide +kernel, by rw [ea]; decide +kernel, ?_, ?_, ?_⟩
    · rw [ea, show sineN 0 = 0 by decide +kernel]
      exact ax_side apW_zero (.inl rfl) L (by omega) (by rw [show widen 0 = 0 by decide +kernel]; exact ap_zero) (by simp)
    · rw [ea, show sineN (fadd .f32 0 1048576000) = 1065353216 by decide +kernel]
      exact ax_side apW_one (.inr (.inl rfl)) L (by omega) hx.widen (by rw [Int.one_mul])
    · exact .inl (by decide +kernel)
  · have fx := hx.flt_t ap32_zero (by omega)
    have e1 : ang64 0 x = 4602678819172646912 := by rw [ang64_eq, h0, fx, f0]; decide +kernel
    have e2 : ang64 (fneg .f32 0) x = 4602678819172646912 := by rw [ang64_eq, h1, fx, f1]; decide +kernel
    have ea : angleN 0 x = 1056964608 := by unfold angleN; rw [e1]; decide +kernel
    refine ⟨by rw [e1]; decide +kernel, by rw [e2]; decide +kernel, by rw [ea]; decide +kernel, by rw [ea]; decide +kernel, by rw [ea]; decide +kernel, by rw [ea]; decide +kernel, ?_, ?_, ?_⟩
    · rw [ea, show sineN 1056964608 = 2147483648 by decide +kernel]
      exact ax_side apW_negz (.inl rfl) L (by omega) (by rw [show widen 0 = 0 by decide +kernel]; exact ap_zero) (by simp)
    · rw [ea, show sineN (fadd .f32 1056964608 1048576000) = 3212836864 by decide +kernel]
      exact ax_side apW_neg (.inr (.inr rfl)) L (by omega) hx.widen (by rw [Int.neg_one_mul])
    · exact .inl (by decide +kernel)
theorem axis_y {y lx : Nat} {j : Int} (hy : Ap .f32 y (j * 72057594037927936) 0) (hj : j ≠ 0) (hj2 : j.natAbs ≤ 64) (hl : Ap .f32 lx ((j.natAbs * j.natAbs * 4503599627370496 : Nat) : Int) 0) : PtLaw y 0 lx := by
  obtain ⟨M, eM, M1, M3, M2⟩ := m_all hj hj2
  have hj0 := m_ne hj
  have L := root_ax (by omega) hj2 hl
  rw [← eM] at L
  have hA := abs_ap hy.widen
  generalize j * 72057594037927936 = J at *
  have h0 : angW y 0 = 4598175219545276416 := by
    unfold angW
    dsimp only
    rw [show abs64 (widen 0) = 0 by decide +kernel, hA.fgt_t ap_zero (by omega)]
    simp only [cond_true]
    rw [fdiv_zero hA (by omega) (abs_sg _), axis_zero]
    decide +kernel
  have h1 : angW (fneg .f32 y) 0 = 4598175219545276416 := by
    have : angW (fneg .f32 y) 0 = angW y 0 := by unfold angW; rw [abs_neg hy hj0]
    rw [this, h0]
  have f0 : flt .f32 0 0 = false := by decide +kernel
  have hyn := hy.neg
  rcases M2 with rfl | rfl
  · have e1 : ang64 y 0 = 4598175219545276416 := by rw [ang64_eq, h0, f0]; dsimp only; rw [hy.flt_f ap32_zero (by omega)]; rfl
    have e2 : ang64 (fneg .f32 y) 0 = fneg .f64 4598175219545276416 := by rw [ang64_eq, h1, f0]; dsimp only; rw [hyn.flt_t ap32_zero (by omega)]; rfl
    have ea : angleN y 0 = 1048576000 := by unfold angleN; rw [e1]; decide +kernel
    refine ⟨by rw [e1]; decide +kernel, by rw [e2]; decide +kernel, by rw [ea]; decide +kernel, by rw [ea]; decide +kernel, by rw [ea]; decide +kernel, by rw [ea]; decide +kernel, ?_, ?_, ?_⟩
    · rw [ea, show sineN 1048576000 = 1065353216 by decide +kernel]
      exact ax_side apW_one (.inr (.inl rfl)) L (by omega) hy.widen (by rw [Int.one_mul])
    · rw [ea, show sineN (fadd .f32 1048576000 1048576000) = 2147483648 by decide +kernel]
      exact ax_side apW_negz (.inl rfl) L (by omega) (by rw [show widen 0 = 0 by decide +kernel]; exact ap_zero) (by simp)
    · exact .inr (by rw [ea, show angleN (fneg .f32 y) 0 = _ from congrArg narrow e2]; decide +kernel)
  · have e1 : ang64 y 0 = fneg .f64 4598175219545276416 := by rw [ang64_eq, h0, f0]; dsimp only; rw [hy.flt_t ap32_zero (by omega)]; rfl
    have e2 : ang64 (fneg .f32 y) 0 = 4598175219545276416 := by rw [ang64_eq, h1, f0]; dsimp only; rw [hyn.flt_f ap32_zero (by omega)]; rfl
    have ea : angleN y 0 = 3196059648 := by unfold angleN; rw [e1]; decide +kernel
    refine ⟨by rw [e1]; decide +kernel, by rw [e2]; decide +kernel, by rw [ea]; decide +kernel, by rw [ea]; decide +kernel, by rw [ea]; decide +kernel, by rw [ea]; decide +kernel, ?_, ?_, ?_⟩
    · rw [ea, show sineN 3196059648 = 3212836864 by decide +kernel]
      exact ax_side apW_neg (.inr (.inr rfl)) L (by omega) hy.widen (by rw [Int.neg_one_mul])
    · rw [ea, show sineN (fadd .f32 3196059648 1048576000) = 0 by decide +kernel]
      exact ax_side apW_zero (.inl rfl) L (by omega) (by rw [show widen 0 = 0 by decide +kernel]; exact ap_zero) (by simp)
    · exact .inr (by rw [ea, show angleN (fneg .f32 y) 0 = _ from congrArg narrow e2]; decide +kernel)

end Fl
end Go.Ev
