/- Floats as rational numbers: wholes. -/
import Derived.Test.YtkdkcdkjfiabfaaFlJ
import Derived.Test.YtkdkcdkjfiabfaaEvFlr
set_option linter.unusedVariables false
set_option linter.unusedSimpArgs false
namespace Go.Ev
open Ieee

namespace Fl
theorem div_gap (n d : Nat) : n / 2 ^ min d (n.log2 + 2) = n / 2 ^ d := by
  by_cases h : d ≤ n.log2 + 2
  · rw [Nat.min_eq_left h]
  · rw [Nat.min_eq_right (by omega)]
    have h1 : n < 2 ^ (n.log2 + 1) := Nat.lt_log2_self
    have h2 : 2 ^ (n.log2 + 1) ≤ 2 ^ (n.log2 + 2) := Nat.pow_le_pow_right (by omega) (by omega)
    have h3 : 2 ^ (n.log2 + 1) ≤ 2 ^ d := Nat.pow_le_pow_right (by omega) (by omega)
    rw [Nat.div_eq_of_lt (by omega), Nat.div_eq_of_lt (by omega)]
theorem cut_zero (s : Bool) (n d : Nat) : Toward.zero.cut s n d = n / 2 ^ d := by
  unfold Toward.cut
  simp only [Nat.shiftLeft_eq, Nat.one_mul, Bool.toNat_false, Nat.add_zero]
  exact div_gap n d
theorem cut_down (n d : Nat) : Toward.down.cut false n d = n / 2 ^ d := by
  unfold Toward.cut
  simp only [Nat.shiftLeft_eq, Nat.one_mul, Bool.false_and, Bool.toNat_false, Nat.add_zero]
  exact div_gap n d
/-- A number in its places: what is whole of it. -/
theorem whole_part (m : Nat) (e : Int) : ((m <<< e.toNat / 2 ^ (-e).toNat : Nat) : Rat) ≤ (m : Rat) * pw e ∧ (m : Rat) * pw e < ((m <<< e.toNat / 2 ^ (-e).toNat : Nat) : Rat) + 1 := by
  have hx : (m : Rat) * pw e * ((2 ^ (-e).toNat : Nat) : Rat) = ((m <<< e.toNat : Nat) : Rat) := by
    rw [Nat.shiftLeft_eq, Rat.natCast_mul, ← pw_nat, ← pw_nat, Rat.mul_assoc, ← pw_add]
    congr 2
    omega
  have g0 : (0 : Rat) < ((2 ^ (-e).toNat : Nat) : Rat) := Rat.natCast_pos.2 (Nat.two_pow_pos _)
  have d1 := Nat.div_add_mod (m <<< e.toNat) (2 ^ (-e).toNat)
  have d2 := Nat.mod_lt (m <<< e.toNat) (Nat.two_pow_pos (-e).toNat)
  generalize m <<< e.toNat = n at *
  generalize 2 ^ (-e).toNat = g at *
  have d1 := congrArg (fun z : Nat => (z : Rat)) d1
  simp only [Rat.natCast_add, Rat.natCast_mul] at d1
  have d2 := Rat.natCast_lt_natCast.2 d2
  have d3 : (0 : Rat) ≤ ((n % g : Nat) : Rat) := Rat.natCast_nonneg
  constructor
  · refine Rat.le_of_mul_le_mul_right ?_ g0
    rw [hx]; grind
  · refine Rat.lt_of_mul_lt_mul_right ?_ (Rat.le_of_lt g0)
    rw [hx]; grind
theorem natCast_inj' {a b : Nat} (h1 : (a : Rat) ≤ (b : Rat)) (h2 : (b : Rat) < (a : Rat) + 1) : a = b := by
  have h1 := Rat.natCast_le_natCast.1 h1
  have : ((b : Nat) : Rat) < ((a + 1 : Nat) : Rat) := by rw [Rat.natCast_add]; exact h2
  have := Rat.natCast_lt_natCast.1 this
  omega
/-- A word that stands for an integer, as one. -/
theorem toInt_ex {k : FloatKind} {w : Nat} {n : Int} (h : Ex k w (n : Rat)) : (k.decode w).toInt .zero = some n := by
  obtain ⟨m, e, h1, h2, _⟩ := read_fin2 h.f
  unfold FloatKind.decode
  rw [h1]
  simp only [Datum.toInt, Datum.integral, cut_zero]
  obtain ⟨p1, p2⟩ := whole_part m e
  have hv : sgd (sg k w) ((m : Rat) * pw e) = (n : Rat) := by rw [h2]; exact h.e
  have hn : (m : Rat) * pw e = (n.natAbs : Rat) := by
    have nn : 0 ≤ (m : Rat) * pw e := Rat.mul_nonneg Rat.natCast_nonneg (Rat.le_of_lt (pw_pos _))
    by_cases c : 0 ≤ n
    · have e1 : ((n : Int) : Rat) = (n.natAbs : Rat) := congrArg (fun z : Int => (z : Rat)) (show n = (n.natAbs : Int) by omega)
      have : (0 : Rat) ≤ (n.natAbs : Rat) := Rat.natCast_nonneg
      rw [e1] at hv
      cases s : sg k w <;> rw [s] at hv <;> simp only [sgd, cond_true, cond_false] at hv <;> grind
    · have e1 : ((n : Int) : Rat) = -(n.natAbs : Rat) := by
        have := congrArg (fun z : Int => (z : Rat)) (show n = -(n.natAbs : Int) by omega)
        rw [Rat.intCast_neg] at this
        exact this
      have : (0 : Rat) ≤ (n.natAbs : Rat) := Rat.natCast_nonneg
      rw [e1] at hv
      cases s : sg k w <;> rw [s] at hv <;> simp only [sgd, cond_true, cond_false] at hv <;> grind
  rw [hn] at p1 p2
  have hc := natCast_inj' p1 p2
  rw [hc]
  unfold signed
  rw [Nat.shiftLeft_zero]
  have hz : n.natAbs = 0 ∨ (sg k w = decide (n < 0)) := by
    by_cases c0 : n = 0
    · left; omega
    · right
      rw [hn] at hv
      have pos : (0 : Rat) < (n.natAbs : Rat) := Rat.natCast_pos.2 (by omega)
      by_cases c : 0 ≤ n
      · rw [decide_eq_false (by omega)]
        have e1 : ((n : Int) : Rat) = (n.natAbs : Rat) := congrArg (fun z : Int => (z : Rat)) (show n = (n.natAbs : Int) by omega)
        rw [e1] at hv
        cases s : sg k w with
        | false => rfl
        | true => rw [s] at hv; simp only [sgd, cond_true] at hv; grind
      · rw [decide_eq_true (by omega)]
        have e1 : ((n : Int) : Rat) = -(n.natAbs : Rat) := by
          have := congrArg (fun z : Int => (z : Rat)) (show n = -(n.natAbs : Int) by omega)
          rw [Rat.intCast_neg] at this
          exact this
        rw [e1] at hv
        cases s : sg k w with
        | true => rfl
        | false => rw [s] at hv; simp only [sgd, cond_false] at hv; grind
  rcases hz with h0 | h0
  · rw [h0]
    have : n = 0 := by omega
    subst this
    cases sg k w <;> rfl
  · rw [h0]
    by_cases c : n < 0
    · rw [decide_eq_true c, if_pos rfl]; congr 1; omega
    · rw [decide_eq_false c, if_neg (by simp)]; congr 1; omega
theorem f2i_ex {k : FloatKind} {w : Nat} {n : Int} {d : IntKind} (h : Ex k w (n : Rat)) (h1 : d.min ≤ n) (h2 : n ≤ d.max) : f2i k w d = some n := by
  unfold f2i
  rw [toInt_ex h]
  simp only []
  rw [if_pos ⟨h1, h2⟩]

/-- The floor of a number that is not negative. -/
theorem floor_ex {v : Nat} {q : Rat} (h : Ex .f64 v q) (h0 : 0 ≤ q) (h1 : q < 9007199254740992) : ∃ n : Nat, (n : Rat) ≤ q ∧ q < (n : Rat) + 1 ∧ Ex .f64 (fwhole .down v) ((n : Int) : Rat) := by
  obtain ⟨m, e, e1, e2, _⟩ := read_fin2 h.f
  have hv : sgd (sg .f64 v) ((m : Rat) * pw e) = q := by rw [e2]; exact h.e
  have nn : 0 ≤ (m : Rat) * pw e := Rat.mul_nonneg Rat.natCast_nonneg (Rat.le_of_lt (pw_pos _))
  obtain ⟨p1, p2⟩ := whole_part m e
  unfold fwhole FloatKind.decode FloatKind.encode
  rw [h.nan, cond_false, e1]
  simp only [Datum.integral, Format.write]
  have hq : (m : Rat) * pw e = q := by
    cases s : sg .f64 v <;> rw [s] at hv <;> simp only [sgd, cond_true, cond_false] at hv <;> grind
  have hcut : (Toward.down.cut (sg .f64 v) (m <<< e.toNat) (-e).toNat) = m <<< e.toNat / 2 ^ (-e).toNat := by
    cases s : sg .f64 v with
    | false => exact cut_down _ _
    | true =>
      rw [s] at hv
      simp only [sgd, cond_true] at hv
      have hm0 : (m : Rat) * pw e = 0 := by grind
      have : m = 0 := by
        rcases Rat.mul_eq_zero.1 hm0 with c | c
        · exact_mod_cast c
        · have := pw_pos e; grind
      subst this
      unfold Toward.cut
      simp
  rw [hcut]
  rw [hq] at p1 p2
  generalize m <<< e.toNat / 2 ^ (-e).toNat = n at *
  refine ⟨n, p1, p2, ?_⟩
  have hn : n ≤ 9007199254740992 := by
    have : (n : Rat) ≤ ((9007199254740992 : Nat) : Rat) := by
      have : ((9007199254740992 : Nat) : Rat) = 9007199254740992 := rfl
      grind
    exact Rat.natCast_le_natCast.1 this
  have hs : sgd (sg .f64 v) ((n : Rat) * pw 0) = ((n : Int) : Rat) := by
    rw [pw_zero, Rat.mul_one]
    cases s : sg .f64 v with
    | false => rfl
    | true =>
      rw [s] at hv
      simp only [sgd, cond_true] at hv
      have hq0 : q = 0 := by grind
      have : (n : Rat) ≤ ((0 : Nat) : Rat) := by
        have : ((0 : Nat) : Rat) = 0 := rfl
        grind
      have := Rat.natCast_le_natCast.1 this
      have : n = 0 := by omega
      subst this
      rfl
  exact (Rnd.of hs).ex (rep64 (n : Int) 0 (by rw [Nat.pow_zero]; exact Rat.mul_one _) (by omega) (by omega))
end Fl
end Go.Ev
