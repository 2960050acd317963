/- Floats as rational numbers: exact steps, kinds, signs. -/
import Derived.Test.YtfdalaakechldaaFlD
set_option linter.unusedVariables false
set_option linter.unusedSimpArgs false
namespace Go.Ev
open Ieee

namespace Fl

/-- A finite word that stands for a number. -/
structure Ex (k : FloatKind) (x : Nat) (q : Rat) : Prop where
  f : fin k x = true
  l : x < 2 * signOf k
  e : ev k x = q
variable {k : FloatKind} {x y : Nat} {p q : Rat}
theorem Ex.nan (h : Ex k x q) : Go.Ev.nan k x = false := fin_nan h.f
theorem Ex.cast (h : Ex k x p) (e : p = q) : Ex k x q := e ▸ h
theorem Rnd.ex (h : Rnd k q x) (hr : Rep k q) : Ex k x q := let ⟨a, b, c⟩ := h.rep hr; ⟨a, b, c⟩
theorem Ex.rep (h : Ex k x q) : Rep k q := ⟨x, h.f, h.l, h.e⟩
theorem Ex.radd (hx : Ex k x p) (hy : Ex k y q) : Rnd k (p + q) (fadd k x y) := by
  have := fadd_rnd hx.f hy.f; rwa [hx.e, hy.e] at this
theorem Ex.rsub (hx : Ex k x p) (hy : Ex k y q) : Rnd k (p - q) (fsub k x y) := by
  have := fsub_rnd hx.f hy.f; rwa [hx.e, hy.e] at this
theorem Ex.rmul (hx : Ex k x p) (hy : Ex k y q) : Rnd k (p * q) (fmul k x y) := by
  have := fmul_rnd hx.f hy.f; rwa [hx.e, hy.e] at this
theorem Ex.rdiv (hx : Ex k x p) (hy : Ex k y q) (h0 : q ≠ 0) : Rnd k (p / q) (fdiv k x y) := by
  have := fdiv_rnd hx.f hy.f (by rw [hy.e]; exact h0); rwa [hx.e, hy.e] at this
theorem Ex.add (hx : Ex k x p) (hy : Ex k y q) (h : Rep k (p + q)) : Ex k (fadd k x y) (p + q) := (hx.radd hy).ex h
theorem Ex.sub (hx : Ex k x p) (hy : Ex k y q) (h : Rep k (p - q)) : Ex k (fsub k x y) (p - q) := (hx.rsub hy).ex h
theorem Ex.mul (hx : Ex k x p) (hy : Ex k y q) (h : Rep k (p * q)) : Ex k (fmul k x y) (p * q) := (hx.rmul hy).ex h
theorem Ex.div (hx : Ex k x p) (hy : Ex k y q) (h0 : q ≠ 0) (h : Rep k (p / q)) : Ex k (fdiv k x y) (p / q) := (hx.rdiv hy h0).ex h
theorem Ex.feq (hx : Ex k x p) (hy : Ex k y q) : feq k x y = decide (p = q) := by rw [feq_ev hx.nan hy.nan, hx.e, hy.e]
theorem Ex.flt (hx : Ex k x p) (hy : Ex k y q) : flt k x y = decide (p < q) := by rw [flt_ev hx.nan hy.nan, hx.e, hy.e]
theorem Ex.fle (hx : Ex k x p) (hy : Ex k y q) : fle k x y = decide (p ≤ q) := by rw [fle_ev hx.nan hy.nan, hx.e, hy.e]
theorem Ex.fgt (hx : Ex k x p) (hy : Ex k y q) : fgt k x y = decide (q < p) := by rw [fgt_ev hx.nan hy.nan, hx.e, hy.e]
theorem Ex.fge (hx : Ex k x p) (hy : Ex k y q) : fge k x y = decide (q ≤ p) := by rw [fge_ev hx.nan hy.nan, hx.e, hy.e]
/-- Two words of one number that is not zero are one word. -/
theorem Ex.inj (hx : Ex k x p) (hy : Ex k y p) (h0 : p ≠ 0) : x = y := ev_inj hx.l hy.l (by rw [hx.e, hy.e]) (by rw [hx.e]; exact h0)

/-! ### which numbers are words -/
theorem rep_int {n : Int} {e : Int} (hn : n.natAbs ≤ 2 * k.format.binade) (he : k.format.leastPlace ≤ e) (hi : (n.natAbs : Rat) * pw e < mg k.format (infOf k)) : Rep k ((n : Rat) * pw e) := by
  have h := rep_nat hn he hi
  by_cases h0 : 0 ≤ n
  · have : (n : Rat) = (n.natAbs : Rat) := by
      have : n = (n.natAbs : Int) := by omega
      exact congrArg (fun z : Int => (z : Rat)) this
    rw [this]; exact h
  · have : (n : Rat) = -(n.natAbs : Rat) := by
      have : n = -(n.natAbs : Int) := by omega
      have := congrArg (fun z : Int => (z : Rat)) this
      rw [Rat.intCast_neg] at this
      exact this
    rw [this, Rat.neg_mul]
    exact h.neg
theorem rep32 (n : Int) (s : Nat) (h : q * ((2 ^ s : Nat) : Rat) = n) (h1 : n.natAbs ≤ 16777216) (h2 : s ≤ 149) : Rep .f32 q := by
  have e : q = (n : Rat) * pw (-(s : Int)) := by
    rw [← h, ← pw_nat, Rat.mul_assoc, ← pw_add, Int.add_right_neg, pw_zero, Rat.mul_one]
  rw [e]
  refine rep_int h1 (by have : FloatKind.f32.format.leastPlace = -149 := rfl; omega) ?_
  rw [mg_inf]
  have a1 : pw (-(s : Int)) ≤ pw 0 := pw_le (by omega)
  have a2 : (n.natAbs : Rat) ≤ ((2 ^ 24 : Nat) : Rat) := Rat.natCast_le_natCast.2 h1
  have a3 : (n.natAbs : Rat) * pw (-(s : Int)) ≤ (n.natAbs : Rat) * pw 0 := Rat.mul_le_mul_of_nonneg_left a1 Rat.natCast_nonneg
  have a4 : pw ((24 : Nat) : Int) < pw 128 := by
    have : pw 128 = ((2 ^ 128 : Nat) : Rat) := pw_nat 128
    rw [pw_nat, this]
    exact Rat.natCast_lt_natCast.2 (by decide)
  rw [pw_nat] at a4
  rw [pw_zero] at a3
  have : (n.natAbs : Rat) * pw (-(s : Int)) < pw 128 := by grind
  exact this
theorem rep64 (n : Int) (s : Nat) (h : q * ((2 ^ s : Nat) : Rat) = n) (h1 : n.natAbs ≤ 9007199254740992) (h2 : s ≤ 1074) : Rep .f64 q := by
  have e : q = (n : Rat) * pw (-(s : Int)) := by
    rw [← h, ← pw_nat, Rat.mul_assoc, ← pw_add, Int.add_right_neg, pw_zero, Rat.mul_one]
  rw [e]
  refine rep_int h1 (by have : FloatKind.f64.format.leastPlace = -1074 := rfl; omega) ?_
  rw [mg_inf]
  have a1 : pw (-(s : Int)) ≤ pw 0 := pw_le (by omega)
  have a2 : (n.natAbs : Rat) ≤ ((2 ^ 53 : Nat) : Rat) := Rat.natCast_le_natCast.2 h1
  have a3 : (n.natAbs : Rat) * pw (-(s : Int)) ≤ (n.natAbs : Rat) * pw 0 := Rat.mul_le_mul_of_nonneg_left a1 Rat.natCast_nonneg
  have a4 : pw ((53 : Nat) : Int) < pw 1024 := by
    have h1 := pw_succ 53
    have h2 := pw_pos 53
    have h3 : pw (53 + 1) ≤ pw 1024 := pw_le (by omega)
    have : pw ((53 : Nat) : Int) = pw 53 := rfl
    grind
  rw [pw_nat] at a4
  rw [pw_zero] at a3
  have : (n.natAbs : Rat) * pw (-(s : Int)) < pw 1024 := by grind
  exact this

/-! ### integers as floats -/
theorem rnd_int (n : Int) : Rnd k (n : Rat) (k.nearest n) := by
  unfold FloatKind.nearest FloatKind.encode
  simp only [Format.write]
  apply Rnd.of
  rw [pw_zero, Rat.mul_one]
  by_cases h : n < 0
  · rw [decide_eq_true h]
    have : n = -(n.natAbs : Int) := by omega
    have := congrArg (fun z : Int => (z : Rat)) this
    rw [Rat.intCast_neg] at this
    exact this.symm
  · rw [decide_eq_false h]
    have : n = (n.natAbs : Int) := by omega
    have := congrArg (fun z : Int => (z : Rat)) this
    exact this.symm
theorem ex_int32 {n : Int} (h : n.natAbs ≤ 16777216) : Ex .f32 (FloatKind.f32.nearest n) (n : Rat) :=
  (rnd_int n).ex (rep32 n 0 (by rw [Nat.pow_zero]; exact Rat.mul_one _) h (by omega))
theorem ex_int64 {n : Int} (h : n.natAbs ≤ 9007199254740992) : Ex .f64 (FloatKind.f64.nearest n) (n : Rat) :=
  (rnd_int n).ex (rep64 n 0 (by rw [Nat.pow_zero]; exact Rat.mul_one _) h (by omega))

/-! ### signs -/
theorem xor_low {n r : Nat} (h : r < 2 ^ n) : r ^^^ 2 ^ n = 2 ^ n + r := by
  apply Nat.eq_of_testBit_eq
  intro i
  rw [Nat.testBit_xor, Nat.testBit_two_pow]
  rcases Nat.lt_trichotomy i n with hi | hi | hi
  · rw [Nat.testBit_two_pow_add_gt hi, decide_eq_false (by omega), Bool.xor_false]
  · subst hi
    rw [Nat.testBit_two_pow_add_eq, Nat.testBit_lt_two_pow h]
    simp
  · have h1 : 2 ^ n + r < 2 ^ i := by
      have : 2 ^ (n + 1) ≤ 2 ^ i := Nat.pow_le_pow_right (by omega) hi
      rw [Nat.pow_succ] at this
      omega
    rw [Nat.testBit_lt_two_pow h1, Nat.testBit_lt_two_pow (by omega : r < 2 ^ i), decide_eq_false (by omega)]
    rfl
theorem sign_two (k : FloatKind) : ∃ n, signOf k = 2 ^ n := by
  cases k
  · exact ⟨31, rfl⟩
  · exact ⟨63, rfl⟩
theorem xor_word (k : FloatKind) {s : Bool} {r : Nat} (h : r ≤ infOf k) : k.format.word s r ^^^ signOf k = k.format.word (!s) r := by
  obtain ⟨n, hn⟩ := sign_two k
  have h2 := inf_lt_sign k
  unfold Format.word
  rw [sign_eq, hn]
  have := xor_low (n := n) (r := r) (by omega)
  cases s
  · simp only [Bool.not_false, Bool.false_eq_true, if_false, if_true]
    exact this
  · simp only [Bool.not_true, Bool.false_eq_true, if_false, if_true]
    rw [← this, Nat.xor_assoc, Nat.xor_self, Nat.xor_zero]
theorem fneg_word (hx : Go.Ev.nan k x = false) (hl : x < 2 * signOf k) : fneg k x = k.format.word (!sg k x) (rung k x) := by
  have hr := nan_false.1 hx
  unfold fneg
  have h1 := xor_word k (s := sg k x) hr
  rw [word_of hl] at h1
  rw [h1, canon_not (nan_word _ hr)]
theorem fneg_ev (hx : Go.Ev.nan k x = false) (hl : x < 2 * signOf k) : ev k (fneg k x) = -ev k x ∧ Go.Ev.nan k (fneg k x) = false ∧ fneg k x < 2 * signOf k ∧ rung k (fneg k x) = rung k x ∧ sg k (fneg k x) = !sg k x := by
  have hr := nan_false.1 hx
  rw [fneg_word hx hl]
  have hw := word_sg (k := k) (s := !sg k x) hr
  refine ⟨?_, nan_word _ hr, hw.2.2, hw.2.1, hw.1⟩
  rw [ev_word hr, sgd_not]; rfl
theorem Ex.neg (hx : Ex k x p) : Ex k (fneg k x) (-p) := by
  obtain ⟨h1, h2, h3, h4, _⟩ := fneg_ev hx.nan hx.l
  exact ⟨by rw [fin_iff, h4]; exact fin_iff.1 hx.f, h3, by rw [h1, hx.e]⟩

/-! ### finite or not -/
theorem sub_self (hl : x < 2 * signOf k) : Go.Ev.feq k (fsub k x x) 0 = fin k x := by
  have z : Ex k 0 0 := ⟨by cases k <;> decide, by cases k <;> decide, (ev_zero (by cases k <;> decide)).2 (.inl rfl)⟩
  by_cases h : fin k x = true
  · have hx : Ex k x (ev k x) := ⟨h, hl, rfl⟩
    have h0 : ev k x - ev k x = 0 := by grind
    have := (hx.sub hx (by rw [h0]; exact z.rep)).feq z
    rw [this, h0, h]; simp
  · have hf : fin k x = false := by simpa using h
    rw [hf]
    have : fsub k x x = qnan k := by
      unfold fsub Format.sub
      cases hn : Go.Ev.nan k x with
      | true =>
        obtain ⟨s, t, e⟩ := read_nan hn
        rw [e]; rfl
      | false =>
        have hr := nan_false.1 hn
        have : ¬ rung k x < infOf k := fun hc => h (fin_iff.2 hc)
        rw [read_inf (by omega)]
        cases sg k x <;> rfl
    rw [this]
    exact feq_nan (.inl (nan_qnan k))

/-! ### from kind to kind -/
theorem read_fin2 {b : Nat} (h : fin k b = true) : ∃ m e, k.format.read b = .number (sg k b) m e ∧ (m : Rat) * pw e = mg k.format (rung k b) ∧ m < 2 * k.format.binade ∧ k.format.leastPlace ≤ e := by
  obtain ⟨m, e, h1, h2⟩ := read_fin h
  refine ⟨m, e, h1, h2, ?_⟩
  rw [fin_iff] at h
  unfold Format.read at h1
  simp only [sign_eq, inf_eq] at h1
  unfold rung at h
  have b0 := B0 k.format
  by_cases g1 : b % signOf k < k.format.binade
  · rw [if_pos g1] at h1
    injection h1 with _ h3 h4
    subst h3; subst h4
    exact ⟨by omega, Int.le_refl _⟩
  · rw [if_neg g1, if_pos h] at h1
    injection h1 with _ h3 h4
    subst h3; subst h4
    have := Nat.mod_lt (b % signOf k) b0
    exact ⟨by omega, by omega⟩
theorem widen_ex {b : Nat} (h : Ex .f32 b q) : Ex .f64 (widen b) q := by
  obtain ⟨m, e, h1, h2, h3, h4⟩ := read_fin2 h.f
  have hq : sgd (sg .f32 b) ((m : Rat) * pw e) = q := by rw [h2]; exact h.e
  have hw : widen b = FloatKind.f64.format.nearest (sg .f32 b) m e := by
    unfold widen FloatKind.encode FloatKind.decode
    rw [h.nan, h1]
    rfl
  rw [hw]
  refine (Rnd.of hq).ex ?_
  have hr : Rep .f64 ((m : Rat) * pw e) := by
    refine rep_nat ?_ ?_ ?_
    · have : FloatKind.f32.format.binade = 8388608 := rfl
      have : FloatKind.f64.format.binade = 4503599627370496 := rfl
      omega
    · have : FloatKind.f32.format.leastPlace = -149 := rfl
      have : FloatKind.f64.format.leastPlace = -1074 := rfl
      omega
    · rw [h2]
      have a1 := mg_lt FloatKind.f32.format (fin_iff.1 h.f)
      have a2 : mg FloatKind.f32.format (infOf .f32) = pw 128 := mg_inf .f32
      have a3 : mg FloatKind.f64.format (infOf .f64) = pw 1024 := mg_inf .f64
      have a4 : pw 128 ≤ pw 1024 := pw_le (by omega)
      rw [a3]; rw [a2] at a1
      grind
  rw [← hq]
  cases sg .f32 b
  · exact hr
  · exact hr.neg
theorem narrow_rnd {b : Nat} (h : Ex .f64 b q) : Rnd .f32 q (narrow b) := by
  obtain ⟨m, e, h1, h2, h3, h4⟩ := read_fin2 h.f
  have hq : sgd (sg .f64 b) ((m : Rat) * pw e) = q := by rw [h2]; exact h.e
  have hw : narrow b = FloatKind.f32.format.nearest (sg .f64 b) m e := by
    unfold narrow FloatKind.encode FloatKind.decode
    rw [h.nan, h1]
    rfl
  rw [hw]
  exact Rnd.of hq
theorem ovf_false {b : Nat} (h : Ex .f64 b q) (h2 : fin .f32 (narrow b) = true) : ovf b = false := by
  obtain ⟨m, e, h1, _⟩ := read_fin2 h.f
  have hw : narrow b = FloatKind.f32.encode (.number (sg .f64 b) m e) := by
    unfold narrow FloatKind.decode
    rw [h.nan, h1]
    rfl
  unfold ovf FloatKind.decode
  rw [h1]
  simp only []
  rw [← hw]
  obtain ⟨m', e', g1, _⟩ := read_fin2 h2
  rw [g1]
  rfl
theorem narrow_ex {b : Nat} (h : Ex .f64 b q) (hr : Rep .f32 q) : Ex .f32 (narrow b) q ∧ ovf b = false := by
  have := (narrow_rnd h).ex hr
  exact ⟨this, ovf_false h this.f⟩

end Fl
end Go.Ev
