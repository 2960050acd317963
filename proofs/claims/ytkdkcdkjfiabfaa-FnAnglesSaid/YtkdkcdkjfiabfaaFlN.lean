/- Angles and sines of floats: the four quadrants. -/
import Derived.Test.YtkdkcdkjfiabfaaFlM
set_option linter.unusedVariables false
set_option linter.unusedSimpArgs false
set_option maxRecDepth 20000
namespace Go.Ev
open Ieee
namespace Fl

def abs64 (x : Nat) : Nat := x % 9223372036854775808
def ang64 (y x : Nat) : Nat :=
  (fun a b : Nat => (fun g : Nat => (fun g : Nat => (fun g : Nat => bif flt .f32 y 0 then fneg .f64 g else g) (bif flt .f32 x 0 then fsub .f64 4602678819172646912 g else g))
    (bif fgt .f64 a b then fsub .f64 4598175219545276416 g else g)) (angG (angTs (bif fgt .f64 a b then fdiv .f64 b a else fdiv .f64 a b) 3))) (abs64 (widen y)) (abs64 (widen x))
def angleN (y x : Nat) : Nat := narrow (ang64 y x)
def sine64 (x : Nat) : Nat :=
  (fun f : Nat => (fun h : Nat => (fun h : Nat => bif fge .f64 f 4602678819172646912 then fneg .f64 (sinO h) else sinO h) (bif fgt .f64 h 4598175219545276416 then fsub .f64 4602678819172646912 h else h))
    (bif fge .f64 f 4602678819172646912 then fsub .f64 f 4602678819172646912 else f)) (bif flt .f64 (widen x) 0 then fadd .f64 (widen x) 4607182418800017408 else widen x)
def sineN (x : Nat) : Nat := narrow (sine64 x)
def gapN (a b : Nat) : Nat := bif flt .f64 a b then fsub .f64 b a else fsub .f64 a b

/-! ### comparisons -/
theorem Ap.lt_of {k : FloatKind} {x y : Nat} {n m : Int} {a b : Nat} (hx : Ap k x n a) (hy : Ap k y m b) (h : n + (a : Int) + (b : Int) < m) : ev k x < ev k y := by
  have x2 := hx.hi
  have y1 := hy.lo
  have h := Rat.intCast_lt_intCast.2 h
  simp only [Rat.intCast_add] at h
  have t1 : ((a : Int) : Rat) = (a : Rat) := rfl
  have t2 : ((b : Int) : Rat) = (b : Rat) := rfl
  rw [t1, t2] at h
  exact Rat.lt_of_mul_lt_mul_right (c := W) (by grind) (Rat.le_of_lt W_pos)
theorem Ap.le_of {k : FloatKind} {x y : Nat} {n m : Int} {a b : Nat} (hx : Ap k x n a) (hy : Ap k y m b) (h : n + (a : Int) + (b : Int) ≤ m) : ev k x ≤ ev k y := by
  have x2 := hx.hi
  have y1 := hy.lo
  have h := Rat.intCast_le_intCast.2 h
  simp only [Rat.intCast_add] at h
  have t1 : ((a : Int) : Rat) = (a : Rat) := rfl
  have t2 : ((b : Int) : Rat) = (b : Rat) := rfl
  rw [t1, t2] at h
  exact Rat.le_of_mul_le_mul_right (c := W) (by grind) W_pos
section
variable {k : FloatKind} {x y : Nat} {n m : Int} {a b : Nat}
theorem Ap.flt_t (hx : Ap k x n a) (hy : Ap k y m b) (h : n + (a : Int) + (b : Int) < m) : flt k x y = true := by
  rw [flt_ev hx.nan hy.nan, decide_eq_true (hx.lt_of hy h)]
theorem Ap.flt_f (hx : Ap k x n a) (hy : Ap k y m b) (h : m + (b : Int) + (a : Int) ≤ n) : flt k x y = false := by
  rw [flt_ev hx.nan hy.nan, decide_eq_false (Rat.not_lt.2 (hy.le_of hx h))]
theorem Ap.fgt_t (hx : Ap k x n a) (hy : Ap k y m b) (h : m + (b : Int) + (a : Int) < n) : fgt k x y = true := by
  rw [fgt_ev hx.nan hy.nan, decide_eq_true (hy.lt_of hx h)]
theorem Ap.fgt_f (hx : Ap k x n a) (hy : Ap k y m b) (h : n + (a : Int) + (b : Int) ≤ m) : fgt k x y = false := by
  rw [fgt_ev hx.nan hy.nan, decide_eq_false (Rat.not_lt.2 (hx.le_of hy h))]
theorem Ap.fge_t (hx : Ap k x n a) (hy : Ap k y m b) (h : m + (b : Int) + (a : Int) ≤ n) : fge k x y = true := by
  rw [fge_ev hx.nan hy.nan, decide_eq_true (hy.le_of hx h)]
theorem Ap.fge_f (hx : Ap k x n a) (hy : Ap k y m b) (h : n + (a : Int) + (b : Int) < m) : fge k x y = false := by
  rw [fge_ev hx.nan hy.nan, decide_eq_false (Rat.not_le.2 (hx.lt_of hy h))]
end
theorem Rnd.neg {k : FloatKind} {q : Rat} {b : Nat} (h : Rnd k q b) : ∃ c, Rnd k (-q) c ∧ ev k c = -ev k b := by
  obtain ⟨s, r, e, h1, h2⟩ := h
  have ri : r ≤ infOf k := by have := h2.inf; rwa [inf_eq] at this
  have e1 : sgd (!s) (-q) = sgd s q := by cases s <;> simp [sgd, Rat.neg_neg]
  refine ⟨k.format.word (!s) r, ⟨!s, r, rfl, by rw [e1]; exact h1, by rw [e1]; exact h2⟩, ?_⟩
  rw [e, ev_word ri, ev_word ri, sgd_not]
theorem narrow_neg {x : Nat} {q : Rat} (h : Ex .f64 x q) : ev .f32 (narrow (fneg .f64 x)) = -ev .f32 (narrow x) := by
  obtain ⟨c, h1, h2⟩ := (narrow_rnd h).neg
  have h3 := narrow_rnd h.neg
  rw [← h2]
  exact Rat.le_antisymm (h3.mono h1 (Rat.le_refl)) (h1.mono h3 (Rat.le_refl))

/-! ### the turns of a sine -/
theorem red1 {x : Nat} {r : Nat} {e : Nat} (h : Ap .f64 (widen x) r e) (h1 : 2305843009213693 ≤ r) (h2 : r ≤ 285924533142498051) (he : e ≤ 200000000000) : ∃ f, sine64 x = sinO f ∧ Ap .f64 f r 274877906944 := by
  unfold sine64
  rw [h.flt_f ap_zero (by omega)]
  simp only [cond_false]
  rw [h.fge_f ap_half (by omega)]
  simp only [cond_false]
  rw [h.fgt_f ap_quarter (by omega)]
  exact ⟨_, rfl, h.le (by omega)⟩
theorem red2 {x : Nat} {r : Nat} {e : Nat} (h : Ap .f64 (widen x) (576460752303423488 - (r : Int)) e) (h1 : 2305843009213693 ≤ r) (h2 : r ≤ 285924533142498051) (he : e ≤ 200000000000) : ∃ f, sine64 x = sinO f ∧ Ap .f64 f r 274877906944 := by
  unfold sine64
  rw [h.flt_f ap_zero (by omega)]
  simp only [cond_false]
  rw [h.fge_f ap_half (by omega)]
  simp only [cond_false]
  rw [h.fgt_t ap_quarter (by omega)]
  exact ⟨_, rfl, (ap_half.sub h (by omega)).to (by omega)⟩
theorem red3 {x : Nat} {r : Nat} {e : Nat} (h : Ap .f64 (widen x) (-(r : Int)) e) (h1 : 2305843009213693 ≤ r) (h2 : r ≤ 285924533142498051) (he : e ≤ 200000000000) : ∃ f, sine64 x = fneg .f64 (sinO f) ∧ Ap .f64 f r 274877906944 := by
  unfold sine64
  rw [h.flt_t ap_zero (by omega)]
  have A := h.add ap_one (by omega)
  simp only [cond_true]
  rw [A.fge_t ap_half (by omega)]
  have B := A.sub ap_half (by omega)
  simp only [cond_true]
  rw [B.fgt_t ap_quarter (by omega)]
  exact ⟨_, rfl, (ap_half.sub B (by omega)).to (by omega)⟩
theorem red4 {x : Nat} {r : Nat} {e : Nat} (h : Ap .f64 (widen x) ((r : Int) - 576460752303423488) e) (h1 : 2305843009213693 ≤ r) (h2 : r ≤ 285924533142498051) (he : e ≤ 200000000000) : ∃ f, sine64 x = fneg .f64 (sinO f) ∧ Ap .f64 f r 274877906944 := by
  unfold sine64
  rw [h.flt_t ap_zero (by omega)]
  have A := h.add ap_one (by omega)
  simp only [cond_true]
  rw [A.fge_t ap_half (by omega)]
  have B := A.sub ap_half (by omega)
  simp only [cond_true]
  rw [B.fgt_f ap_quarter (by omega)]
  exact ⟨_, rfl, B.to (by omega)⟩
theorem red5 {x : Nat} {r : Nat} {e : Nat} (h : Ap .f64 (widen x) ((r : Int) + 576460752303423488) e) (h1 : 2305843009213693 ≤ r) (h2 : r ≤ 285924533142498051) (he : e ≤ 200000000000) : ∃ f, sine64 x = fneg .f64 (sinO f) ∧ Ap .f64 f r 274877906944 := by
  unfold sine64
  rw [h.flt_f ap_zero (by omega)]
  simp only [cond_false]
  rw [h.fge_t ap_half (by omega)]
  have B := h.sub ap_half (by omega)
  simp only [cond_true]
  rw [B.fgt_f ap_quarter (by omega)]
  exact ⟨_, rfl, B.to (by omega)⟩

/-! ### what the numbers show -/
theorem core {a b : Nat} (h : chkN a b = true) (hb : 1 ≤ b) (hab : b ≤ a) (ha : a ≤ 64) {t : Nat} (ht : Ap .f64 t ((b * 1152921504606846976 / a : Nat) : Int) 1025) :
    ∃ g : Nat, 2305843009213693 ≤ g ∧ g ≤ 146421031085069565 ∧ Ap .f64 (angG (angTs t 3)) g 16400 ∧
    ∀ fs fc lx, Ap .f64 fs g 274877906944 → Ap .f64 fc ((288230376151711744 - g : Nat) : Int) 274877906944 → Ap .f64 lx (((a * a + b * b) * 4503599627370496 : Nat) : Int) 0 →
      ∃ s c l : Nat, s ≤ 1164450719652915445 ∧ c ≤ 1164450719652915445 ∧ l ≤ 6917529027641081856 ∧ Ap .f64 (sinO fs) s 4770000001024 ∧ Ap .f64 (sinO fc) c 4770000001024 ∧ Ap .f64 (fsqrt .f64 lx) l 1409 ∧
        near2 (s * l / 1152921504606846976) (b * 72057594037927936) 57646075230342 = true ∧ near2 (c * l / 1152921504606846976) (a * 72057594037927936) 57646075230342 = true := by
  unfold chkN at h
  rw [st_eq] at h
  have hq : b * 1152921504606846976 / a ≤ 1152921504606846976 := by
    refine Nat.div_le_of_le_mul ?_
    exact Nat.mul_le_mul_right _ hab
  obtain ⟨t1, h, b1, A1⟩ := angStep_ap h hq ht (by decide)
  obtain ⟨t2, h, b2, A2⟩ := angStep_ap h b1 A1 (by decide)
  obtain ⟨t3, h, b3, A3⟩ := angStep_ap h b2 A2 (by decide)
  obtain ⟨g, h, A4⟩ := angG_ap h (A3.le (c := 8000) (by decide))
  simp only [Bool.and_eq_true, Nat.ble_eq] at h
  obtain ⟨g1, g2, h⟩ := h
  refine ⟨g, g1, g2, A4, fun fs fc lx hs hc hl => ?_⟩
  obtain ⟨s, h, s1, S1⟩ := sinN_ap h hs
  obtain ⟨c, h, c1, C1⟩ := sinN_ap h hc
  have hn : a * a + b * b ≤ 8192 := by
    have := Nat.mul_le_mul ha ha
    have := Nat.mul_le_mul (Nat.le_trans hab ha) (Nat.le_trans hab ha)
    omega
  have hn1 : 1 ≤ a * a + b * b := by
    have := Nat.mul_le_mul hb hb
    omega
  obtain ⟨l, h, l1, l2, L1⟩ := rootL_ap h hn1 hn hl
  rw [Bool.and_eq_true] at h
  exact ⟨s, c, l, s1, c1, l2, S1, C1, L1, h.1, h.2⟩

/-! ### all pairs -/
def rowN (a : Nat) : Bool := (List.range a).all fun i => chkN a (i + 1)
theorem rows : (List.range 64).all (fun i => rowN (i + 1)) = true := by decide +kernel
theorem chk_all {a b : Nat} (hb : 1 ≤ b) (hab : b ≤ a) (ha : a ≤ 64) : chkN a b = true := by
  have h1 := List.all_eq_true.1 rows (a - 1) (List.mem_range.2 (by omega))
  rw [show a - 1 + 1 = a by omega] at h1
  have h2 := List.all_eq_true.1 h1 (b - 1) (List.mem_range.2 (by omega))
  rwa [show b - 1 + 1 = b by omega] at h2
end Fl
end Go.Ev
