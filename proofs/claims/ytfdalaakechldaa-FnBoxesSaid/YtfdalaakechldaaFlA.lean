/- Floats as rational numbers: rungs and their magnitudes, and to what rung a number is rounded. -/
import Ieee.Arith
set_option linter.unusedVariables false
namespace Go.Ev
open Ieee

/-- A power of two. -/
def pw (e : Int) : Rat := (2 : Rat) ^ e
theorem pw_pos (e : Int) : 0 < pw e := Rat.zpow_pos (by decide)
theorem pw_add (a b : Int) : pw (a + b) = pw a * pw b := Rat.zpow_add (by decide) a b
theorem pw_nat (n : Nat) : pw (n : Int) = ((2 ^ n : Nat) : Rat) := by
  unfold pw
  rw [Rat.zpow_natCast]
  induction n with
  | zero => rfl
  | succ n ih => rw [Rat.pow_succ, ih, Nat.pow_succ, Rat.natCast_mul]; rfl
theorem pw_zero : pw 0 = 1 := Rat.zpow_zero _
theorem pw_succ (e : Int) : pw (e + 1) = 2 * pw e := by
  rw [pw_add, Rat.mul_comm]; congr 1
theorem pw_le {a b : Int} (h : a ≤ b) : pw a ≤ pw b := by
  obtain ⟨n, rfl⟩ : ∃ n : Nat, b = a + n := ⟨(b - a).toNat, by omega⟩
  rw [pw_add, pw_nat]
  have h1 := pw_pos a
  have h2 : (1 : Rat) ≤ ((2 ^ n : Nat) : Rat) := by
    have := Nat.two_pow_pos n
    exact_mod_cast this
  calc pw a = pw a * 1 := by grind
    _ ≤ _ := Rat.mul_le_mul_of_nonneg_left h2 (Rat.le_of_lt h1)

namespace Fl
variable (f : Format)

theorem B0 : 0 < f.binade := Nat.two_pow_pos _

/-- The magnitude of a rung, in units of the least place. -/
def mgN (r : Nat) : Nat := if r < f.binade then r else (f.binade + r % f.binade) * 2 ^ (r / f.binade - 1)
/-- The magnitude of a rung. -/
def mg (r : Nat) : Rat := (mgN f r : Rat) * pw f.leastPlace

theorem mgN_at (p j : Nat) (hj : j ≤ 2 * f.binade) (h : p = 0 ∨ f.binade ≤ j) : mgN f (p * f.binade + j) = j * 2 ^ p := by
  have b0 := B0 f
  unfold mgN
  generalize f.binade = B at *
  by_cases h1 : j < B
  · have : p = 0 := by omega
    subst this
    rw [if_pos (by omega)]
    simp
  · by_cases h2 : j = 2 * B
    · subst h2
      have e : p * B + 2 * B = (p + 2) * B := by rw [Nat.add_mul]
      have e3 : B ≤ (p + 2) * B := Nat.le_mul_of_pos_left B (by omega)
      rw [e, if_neg (by omega), Nat.mul_mod_left, Nat.mul_div_cancel _ b0]
      have : p + 2 - 1 = p + 1 := by omega
      rw [this, Nat.pow_succ, Nat.add_zero, Nat.mul_comm 2 B, Nat.mul_assoc, Nat.mul_comm 2 (2 ^ p)]
    · obtain ⟨t, rfl⟩ : ∃ t, j = B + t := ⟨j - B, by omega⟩
      have e : p * B + (B + t) = t + B * (p + 1) := by rw [Nat.mul_add, Nat.mul_comm]; omega
      have e3 : B ≤ B * (p + 1) := Nat.le_mul_of_pos_right B (by omega)
      rw [e, if_neg (by omega), Nat.add_mul_mod_self_left, Nat.mod_eq_of_lt (by omega), Nat.add_mul_div_left _ _ b0, Nat.div_eq_of_lt (by omega)]
      simp

/-- Each rung in its scale. -/
theorem scale (r : Nat) : ∃ p j, r = p * f.binade + j ∧ j < 2 * f.binade ∧ (p = 0 ∨ f.binade ≤ j) := by
  have b0 := B0 f
  generalize f.binade = B at *
  by_cases h : r < B
  · exact ⟨0, r, by omega, by omega, .inl rfl⟩
  · have h1 := Nat.div_add_mod r B
    have h2 := Nat.mod_lt r b0
    have h3 : 1 ≤ r / B := (Nat.one_le_div_iff b0).2 (by omega)
    refine ⟨r / B - 1, B + r % B, ?_, by omega, .inr (by omega)⟩
    have : r / B = r / B - 1 + 1 := by omega
    rw [this, Nat.mul_add, Nat.mul_comm] at h1
    omega

theorem mgN_lt_succ (r : Nat) : mgN f r < mgN f (r + 1) := by
  obtain ⟨p, j, e, h1, h2⟩ := scale f r
  subst e
  rw [mgN_at f p j (by omega) h2, Nat.add_assoc, mgN_at f p (j + 1) (by omega) (by omega)]
  exact Nat.mul_lt_mul_of_pos_right (by omega) (Nat.two_pow_pos _)
theorem mgN_lt {r s : Nat} (h : r < s) : mgN f r < mgN f s := by
  induction s with
  | zero => omega
  | succ s ih =>
    by_cases e : r = s
    · subst e; exact mgN_lt_succ f r
    · exact Nat.lt_trans (ih (by omega)) (mgN_lt_succ f s)
theorem mgN_le {r s : Nat} (h : r ≤ s) : mgN f r ≤ mgN f s := by
  by_cases e : r = s
  · subst e; exact Nat.le_refl _
  · exact Nat.le_of_lt (mgN_lt f (by omega))
theorem mg_lt {r s : Nat} (h : r < s) : mg f r < mg f s :=
  Rat.mul_lt_mul_of_pos_right (Rat.natCast_lt_natCast.2 (mgN_lt f h)) (pw_pos _)
theorem mg_le {r s : Nat} (h : r ≤ s) : mg f r ≤ mg f s :=
  Rat.mul_le_mul_of_nonneg_right (Rat.natCast_le_natCast.2 (mgN_le f h)) (Rat.le_of_lt (pw_pos _))
theorem lt_of_mg {r s : Nat} (h : mg f r < mg f s) : r < s := by
  refine Nat.lt_of_not_le fun h2 => ?_
  have := mg_le f h2
  grind
theorem le_of_mg {r s : Nat} (h : mg f r ≤ mg f s) : r ≤ s := by
  refine Nat.le_of_not_lt fun h2 => ?_
  have := mg_lt f h2
  grind
theorem mg_inj {r s : Nat} (h : mg f r = mg f s) : r = s :=
  Nat.le_antisymm (le_of_mg f (by grind)) (le_of_mg f (by grind))
theorem mg_zero : mg f 0 = 0 := by
  have : mgN f 0 = 0 := by unfold mgN; rw [if_pos (B0 f)]
  unfold mg
  rw [this]
  exact Rat.zero_mul _
theorem mg_nonneg (r : Nat) : 0 ≤ mg f r := by rw [← mg_zero f]; exact mg_le f (Nat.zero_le r)
theorem mg_at (p j : Nat) (hj : j ≤ 2 * f.binade) (h : p = 0 ∨ f.binade ≤ j) : mg f (p * f.binade + j) = (j : Rat) * pw (f.leastPlace + p) := by
  unfold mg
  rw [mgN_at f p j hj h, pw_add, pw_nat, Rat.natCast_mul]
  grind

/-- What Toward.even.cut gives. -/
theorem cut_spec (neg : Bool) (n d : Nat) : 2 * n ≤ (2 * Toward.even.cut neg n d + 1) * 2 ^ d ∧ 2 * (Toward.even.cut neg n d) * 2 ^ d ≤ 2 * n + 2 ^ d ∧
    ((2 * n = (2 * Toward.even.cut neg n d + 1) * 2 ^ d ∨ 2 * (Toward.even.cut neg n d) * 2 ^ d = 2 * n + 2 ^ d) → Toward.even.cut neg n d % 2 = 0) := by
  unfold Toward.cut
  simp only []
  by_cases hd : d ≤ n.log2 + 2
  · rw [Nat.min_eq_left hd, Nat.shiftLeft_eq, Nat.one_mul]
    have g0 := Nat.two_pow_pos d
    generalize 2 ^ d = g at *
    have h1 := Nat.div_add_mod n g
    have h2 := Nat.mod_lt n g0
    generalize n / g = low at *
    generalize n % g = rest at *
    have e1 : (2 * low + 1) * g = 2 * (g * low) + g := by grind
    have e2 : (2 * (low + 1) + 1) * g = 2 * (g * low) + 3 * g := by grind
    have e3 : 2 * low * g = 2 * (g * low) := by grind
    have e4 : 2 * (low + 1) * g = 2 * (g * low) + 2 * g := by grind
    by_cases c1 : g < 2 * rest
    · have : (decide (g < 2 * rest) || g == 2 * rest && low % 2 == 1).toNat = 1 := by simp [c1]
      rw [this, e2, e4]
      refine ⟨by omega, by omega, fun h => ?_⟩
      omega
    · by_cases c2 : g = 2 * rest
      · by_cases c3 : low % 2 = 1
        · have : (decide (g < 2 * rest) || g == 2 * rest && low % 2 == 1).toNat = 1 := by simp [c2, c3]
          rw [this, e2, e4]
          refine ⟨by omega, by omega, fun h => ?_⟩
          omega
        · have : (decide (g < 2 * rest) || g == 2 * rest && low % 2 == 1).toNat = 0 := by simp [c2, c3]
          simp only [this, Nat.add_zero, e1, e3]
          refine ⟨by omega, by omega, fun h => ?_⟩
          omega
      · have : (decide (g < 2 * rest) || g == 2 * rest && low % 2 == 1).toNat = 0 := by simp [c1, c2]
        simp only [this, Nat.add_zero, e1, e3]
        refine ⟨by omega, by omega, fun h => ?_⟩
        omega
  · have hl : n < 2 ^ (n.log2 + 1) := Nat.lt_log2_self
    have hg : 2 ^ (n.log2 + 2) = 2 * 2 ^ (n.log2 + 1) := by rw [Nat.pow_succ, Nat.mul_comm]
    have hp : 2 ^ (n.log2 + 2) ≤ 2 ^ d := Nat.pow_le_pow_right (by omega) (by omega)
    rw [Nat.min_eq_right (by omega), Nat.shiftLeft_eq, Nat.one_mul, Nat.div_eq_of_lt (by omega), Nat.mod_eq_of_lt (by omega)]
    have : (decide (2 ^ (n.log2 + 2) < 2 * n) || 2 ^ (n.log2 + 2) == 2 * n && 0 % 2 == 1).toNat = 0 := by
      rw [decide_eq_false (by omega)]; simp
    rw [this]
    refine ⟨by omega, by omega, fun _ => rfl⟩

/-- The rung that is nearest to a number. -/
def rg (m : Nat) (e : Int) : Nat :=
  if m = 0 then 0 else
  min ((max (e + m.log2 - f.fractionBits) f.leastPlace - f.leastPlace).toNat * f.binade + Toward.even.cut false (m <<< (e - max (e + m.log2 - f.fractionBits) f.leastPlace).toNat) (max (e + m.log2 - f.fractionBits) f.leastPlace - e).toNat) f.infRung

theorem cut_neg (neg : Bool) (n d : Nat) : Toward.even.cut neg n d = Toward.even.cut false n d := rfl
theorem nearest_eq (neg : Bool) (m : Nat) (e : Int) : f.nearest neg m e = f.word neg (rg f m e) := by
  unfold Format.nearest rg
  by_cases h : m = 0
  · rw [if_pos h, if_pos h]
  · rw [if_neg h, if_neg h]
    rfl

/-- To what a number is rounded, in its scale. -/
theorem rg_scale {m : Nat} {e : Int} (hm : m ≠ 0) : ∃ p c : Nat, rg f m e = min (p * f.binade + c) f.infRung ∧ (p = 0 ∨ f.binade ≤ c) ∧ c ≤ 2 * f.binade ∧
    (p = 0 ∨ (f.binade : Rat) * pw (f.leastPlace + p) ≤ (m : Rat) * pw e) ∧ (m : Rat) * pw e < (2 * f.binade : Rat) * pw (f.leastPlace + p) ∧
    2 * ((m : Rat) * pw e) ≤ (2 * c + 1) * pw (f.leastPlace + p) ∧ (2 * c : Rat) * pw (f.leastPlace + p) ≤ 2 * ((m : Rat) * pw e) + pw (f.leastPlace + p) ∧
    ((2 * ((m : Rat) * pw e) = (2 * c + 1) * pw (f.leastPlace + p) ∨ (2 * c : Rat) * pw (f.leastPlace + p) = 2 * ((m : Rat) * pw e) + pw (f.leastPlace + p)) → c % 2 = 0) := by
  unfold rg
  rw [if_neg hm]
  have hlast : f.leastPlace ≤ max (e + m.log2 - f.fractionBits) f.leastPlace := Int.le_max_right _ _
  have hlast2 : e + m.log2 - f.fractionBits ≤ max (e + m.log2 - f.fractionBits) f.leastPlace := Int.le_max_left _ _
  have hlast3 : max (e + m.log2 - f.fractionBits) f.leastPlace = f.leastPlace ∨ max (e + m.log2 - f.fractionBits) f.leastPlace = e + m.log2 - f.fractionBits := by omega
  generalize max (e + m.log2 - f.fractionBits) f.leastPlace = last at *
  obtain ⟨p, hp⟩ : ∃ p : Nat, last = f.leastPlace + p := ⟨(last - f.leastPlace).toNat, by omega⟩
  have hp2 : (last - f.leastPlace).toNat = p := by omega
  rw [hp2]
  have hs := cut_spec false (m <<< (e - last).toNat) (last - e).toNat
  generalize hc : Toward.even.cut false (m <<< (e - last).toNat) (last - e).toNat = c at *
  -- the number in units
  have hx : (m : Rat) * pw e * ((2 ^ (last - e).toNat : Nat) : Rat) = ((m <<< (e - last).toNat : Nat) : Rat) * pw last := by
    rw [Nat.shiftLeft_eq, Rat.natCast_mul, ← pw_nat, ← pw_nat, Rat.mul_assoc, ← pw_add, Rat.mul_assoc, ← pw_add]
    congr 2
    omega
  have hu := pw_pos last
  have g0 : (0 : Rat) < ((2 ^ (last - e).toNat : Nat) : Rat) := Rat.natCast_pos.2 (Nat.two_pow_pos _)
  generalize m <<< (e - last).toNat = n at *
  generalize hgg : 2 ^ (last - e).toNat = g at *
  have b0 := B0 f
  -- bounds by the logarithm
  have hm1 : 2 ^ m.log2 ≤ m := Nat.log2_self_le hm
  have hm2 : m < 2 ^ (m.log2 + 1) := Nat.lt_log2_self
  have hlo : last = e + m.log2 - f.fractionBits → (f.binade : Rat) * pw last ≤ (m : Rat) * pw e := by
    intro h
    have e1 : (f.binade : Rat) * pw last = ((2 ^ m.log2 : Nat) : Rat) * pw e := by
      unfold Format.binade
      rw [← pw_nat, ← pw_nat, ← pw_add, ← pw_add]
      congr 1
      omega
    rw [e1]
    exact Rat.mul_le_mul_of_nonneg_right (Rat.natCast_le_natCast.2 hm1) (Rat.le_of_lt (pw_pos _))
  have hhi : (m : Rat) * pw e < (2 * f.binade : Rat) * pw last := by
    have e1 : (m : Rat) * pw e < ((2 ^ (m.log2 + 1) : Nat) : Rat) * pw e := Rat.mul_lt_mul_of_pos_right (Rat.natCast_lt_natCast.2 hm2) (pw_pos _)
    have e2 : ((2 ^ (m.log2 + 1) : Nat) : Rat) * pw e ≤ (2 * f.binade : Rat) * pw last := by
      have e3 : (2 * f.binade : Rat) = pw ((f.fractionBits + 1 : Nat) : Int) := by
        rw [pw_nat]
        unfold Format.binade
        rw [Nat.pow_succ, Rat.natCast_mul]
        grind
      rw [e3, ← pw_nat, ← pw_add, ← pw_add]
      exact pw_le (by omega)
    grind
  have hn0 : (0 : Rat) ≤ (n : Rat) := Rat.natCast_nonneg
  -- the cut in units
  obtain ⟨s1, s2, s3⟩ := hs
  have s1' : (2 * n : Rat) ≤ (2 * c + 1) * g := by
    have := Rat.natCast_le_natCast.2 s1
    simpa [Rat.natCast_mul, Rat.natCast_add] using this
  have s2' : (2 * c * g : Rat) ≤ 2 * n + g := by
    have := Rat.natCast_le_natCast.2 s2
    simpa [Rat.natCast_mul, Rat.natCast_add] using this
  have cancel : ∀ {a b : Rat}, a * g ≤ b * g → a ≤ b := fun h => Rat.le_of_mul_le_mul_right h g0
  have q1 : 2 * ((m : Rat) * pw e) ≤ (2 * c + 1) * pw last := by
    refine cancel ?_
    have := Rat.mul_le_mul_of_nonneg_right s1' (Rat.le_of_lt hu)
    grind
  have q2 : (2 * c : Rat) * pw last ≤ 2 * ((m : Rat) * pw e) + pw last := by
    refine cancel ?_
    have := Rat.mul_le_mul_of_nonneg_right s2' (Rat.le_of_lt hu)
    grind
  have uu : ∀ {a b : Rat}, a * pw last ≤ b * pw last → a ≤ b := fun h => Rat.le_of_mul_le_mul_right h hu
  have hcB : c ≤ 2 * f.binade := by
    have : (2 * c : Rat) * pw last < (4 * f.binade + 1) * pw last := by grind
    have h3 : (2 * c : Rat) < 4 * f.binade + 1 := Rat.lt_of_mul_lt_mul_right this (Rat.le_of_lt hu)
    have h4 : ((2 * c : Nat) : Rat) < ((4 * f.binade + 1 : Nat) : Rat) := by
      simpa [Rat.natCast_mul, Rat.natCast_add] using h3
    have := Rat.natCast_lt_natCast.1 h4
    omega
  have hpB : p = 0 ∨ f.binade ≤ c := by
    by_cases h0 : p = 0
    · exact .inl h0
    · right
      have h1 := hlo (by omega)
      have : (2 * f.binade : Rat) * pw last ≤ (2 * c + 1) * pw last := by grind
      have h3 := uu this
      have h4 : ((2 * f.binade : Nat) : Rat) ≤ ((2 * c + 1 : Nat) : Rat) := by
        simpa [Rat.natCast_mul, Rat.natCast_add] using h3
      have := Rat.natCast_le_natCast.1 h4
      omega
  refine ⟨p, c, rfl, hpB, hcB, ?_⟩
  rw [← hp]
  refine ⟨?_, hhi, q1, q2, ?_⟩
  · by_cases h0 : p = 0
    · exact .inl h0
    · exact .inr (hlo (by omega))
  · intro h
    apply s3
    have inj : ∀ {a b : Nat}, (a : Rat) = (b : Rat) → a = b := fun h => Nat.le_antisymm (Rat.natCast_le_natCast.1 (by grind)) (Rat.natCast_le_natCast.1 (by grind))
    have canc : ∀ {a b : Rat}, a * pw last = b * pw last → a = b := fun {a b} h => by
      have e1 := uu (a := a) (b := b) (by grind)
      have e2 := uu (a := b) (b := a) (by grind)
      grind
    rcases h with h | h
    · left
      apply inj
      rw [Rat.natCast_mul, Rat.natCast_mul, Rat.natCast_add, Rat.natCast_mul]
      apply canc
      have := congrArg (· * (g : Rat)) h
      grind
    · right
      apply inj
      rw [Rat.natCast_mul, Rat.natCast_mul, Rat.natCast_add, Rat.natCast_mul]
      apply canc
      have := congrArg (· * (g : Rat)) h
      grind

end Fl
end Go.Ev
