/- Floats as rational numbers: which numbers are words, quotients, other kinds. -/
import Derived.Test.YtfdalaakechldaaFlC
set_option linter.unusedVariables false
set_option linter.unusedSimpArgs false
namespace Go.Ev
open Ieee

theorem pw_lt_of {a b : Int} (h : pw a < pw b) : a < b := by
  refine Int.lt_of_not_ge fun hc => ?_
  have := pw_le hc
  grind
theorem pw_neg_mul (e : Int) : pw (-e) * pw e = 1 := by rw [← pw_add, Int.add_left_neg, pw_zero]

namespace Fl

theorem Near.between {f : Format} {x a lo hi : Rat} {r : Nat} (h : Near f x r) (h1 : ∀ t, mg f t ≤ lo ∨ hi ≤ mg f t) (h2 : ∀ t, mg f t + mg f (t + 1) ≤ 2 * lo ∨ 2 * hi ≤ mg f t + mg f (t + 1))
    (x1 : lo < x) (x2 : x < hi) (a1 : lo < a) (a2 : a < hi) : Near f a r := by
  refine ⟨h.inf, fun t ht e => h.lo t ht ?_, fun t e => h.hi t ?_, fun t ht e => h.lt t ht ?_, fun t ht e => h.gt t ht ?_, fun t ht e => ?_⟩
  · rcases h1 t with g | g <;> grind
  · rcases h1 t with g | g <;> grind
  · rcases h2 t with g | g <;> grind
  · rcases h2 t with g | g <;> grind
  · rcases h2 t with g | g <;> grind

theorem cast_odd {w : Nat} : ((w / 2 : Nat) : Rat) * 2 ≤ (w : Rat) ∧ (w : Rat) ≤ ((w / 2 : Nat) : Rat) * 2 + 1 := by
  have h1 : w / 2 * 2 ≤ w := by omega
  have h2 : w ≤ w / 2 * 2 + 1 := by omega
  have h1 := Rat.natCast_le_natCast.2 h1
  have h2 := Rat.natCast_le_natCast.2 h2
  rw [Rat.natCast_mul] at h1
  rw [Rat.natCast_add, Rat.natCast_mul] at h2
  exact ⟨h1, h2⟩

theorem mid1 {w v h : Rat} (e : w = 2 * v) : 2 * ((w + 1) * h) ≤ v * (2 * h) + (v + 1) * (2 * h) := by subst e; grind
theorem mid2 {w v h : Rat} (e : w = 2 * v + 1) : v * (2 * h) + (v + 1) * (2 * h) ≤ 2 * (w * h) := by subst e; grind
/-- Around a number with an odd last digit there is no word and no middle of words. -/
theorem sticky_gap {f : Format} {S : Nat} {g : Int} (hS : 2 ^ (f.fractionBits + 2) ≤ S) (hodd : S % 2 = 1) :
    ∃ lo hi : Rat, 0 ≤ lo ∧ lo ≤ ((S : Rat) - 1) * pw g ∧ ((S : Rat) + 1) * pw g ≤ hi ∧ (∀ t, mg f t ≤ lo ∨ hi ≤ mg f t) ∧ (∀ t, mg f t + mg f (t + 1) ≤ 2 * lo ∨ 2 * hi ≤ mg f t + mg f (t + 1)) := by
  have hS0 : S ≠ 0 := by omega
  obtain ⟨p, c, e1, s1, s2, s3, s4, _⟩ := rg_scale f (e := g) hS0
  have hg := pw_pos g
  have b0 := B0 f
  have hSc : ((2 ^ (f.fractionBits + 2) : Nat) : Rat) ≤ (S : Rat) := Rat.natCast_le_natCast.2 hS
  -- the scale's half is an even number of units
  have hK : g + 1 < f.leastPlace + p := by
    have t1 : pw (g + 1 + (f.fractionBits + 1 : Nat)) ≤ (S : Rat) * pw g := by
      have : pw (g + 1 + (f.fractionBits + 1 : Nat)) = ((2 ^ (f.fractionBits + 2) : Nat) : Rat) * pw g := by
        rw [← pw_nat, ← pw_add]; congr 1; omega
      rw [this]
      exact Rat.mul_le_mul_of_nonneg_right hSc (Rat.le_of_lt hg)
    have t2 : (2 * f.binade : Rat) * pw (f.leastPlace + p) = pw (f.leastPlace + p + (f.fractionBits + 1 : Nat)) := by
      rw [pw_add _ ((f.fractionBits + 1 : Nat) : Int), pw_nat]
      unfold Format.binade
      rw [Nat.pow_succ, Rat.natCast_mul]
      grind
    rw [t2] at s4
    have := pw_lt_of (show pw (g + 1 + (f.fractionBits + 1 : Nat)) < pw (f.leastPlace + p + (f.fractionBits + 1 : Nat)) by grind)
    omega
  obtain ⟨K, hKe⟩ : ∃ K : Nat, f.leastPlace + p = g + 1 + (K + 1 : Nat) := ⟨(f.leastPlace + p - g - 2).toNat, by omega⟩
  have hh : pw (f.leastPlace + p) = 2 * (((2 ^ (K + 1) : Nat) : Rat) * pw g) := by
    rw [hKe, pw_add, pw_succ, pw_nat]; grind
  have hH : (2 ^ (K + 1)) % 2 = 0 := by rw [Nat.pow_succ]; simp
  have H0 := Nat.two_pow_pos (K + 1)
  generalize 2 ^ (K + 1) = H at *
  have d1 := Nat.div_add_mod S H
  have d2 := Nat.mod_lt S H0
  have d3 : S % H % 2 = 1 := by rw [Nat.mod_mod_of_dvd _ (Nat.dvd_of_mod_eq_zero hH)]; exact hodd
  generalize S / H = w at *
  generalize S % H = ρ at *
  have hh0 : 0 < (H : Rat) * pw g := Rat.mul_pos (Rat.natCast_pos.2 H0) hg
  -- the ends
  have l1 : (w : Rat) * ((H : Rat) * pw g) ≤ ((S : Rat) - 1) * pw g := by
    have : H * w + 1 ≤ S := by omega
    have := Rat.natCast_le_natCast.2 this
    rw [Rat.natCast_add, Rat.natCast_mul] at this
    have := Rat.mul_le_mul_of_nonneg_right this (Rat.le_of_lt hg)
    grind
  have l2 : ((S : Rat) + 1) * pw g ≤ ((w : Rat) + 1) * ((H : Rat) * pw g) := by
    have : S + 1 ≤ H * w + H := by omega
    have := Rat.natCast_le_natCast.2 this
    rw [Rat.natCast_add, Rat.natCast_add, Rat.natCast_mul] at this
    have := Rat.mul_le_mul_of_nonneg_right this (Rat.le_of_lt hg)
    grind
  generalize hhg : (H : Rat) * pw g = h at *
  rw [hh] at s3 s4
  -- where the scale's digits lie
  have j1 : p = 0 ∨ f.binade ≤ w / 2 := by
    rcases s3 with s3 | s3
    · exact .inl s3
    · right
      have : (2 * f.binade : Rat) * h < ((w : Rat) + 1) * h := by grind
      have := Rat.lt_of_mul_lt_mul_right this (Rat.le_of_lt hh0)
      have : ((2 * f.binade : Nat) : Rat) < ((w + 1 : Nat) : Rat) := by
        rw [Rat.natCast_add, Rat.natCast_mul]; exact this
      have := Rat.natCast_lt_natCast.1 this
      omega
  have j2 : w / 2 + 1 ≤ 2 * f.binade := by
    have : (w : Rat) * h < (4 * f.binade : Rat) * h := by grind
    have := Rat.lt_of_mul_lt_mul_right this (Rat.le_of_lt hh0)
    have : ((w : Nat) : Rat) < ((4 * f.binade : Nat) : Rat) := by
      rw [Rat.natCast_mul]; exact this
    have := Rat.natCast_lt_natCast.1 this
    omega
  obtain ⟨c1, c2⟩ := cast_odd (w := w)
  have m1 : mg f (p * f.binade + w / 2) = ((w / 2 : Nat) : Rat) * (2 * h) := by rw [mg_at f p (w / 2) (by omega) j1, hh]
  have m2 : mg f (p * f.binade + (w / 2 + 1)) = (((w / 2 : Nat) : Rat) + 1) * (2 * h) := by
    rw [mg_at f p (w / 2 + 1) j2 (by omega), hh, Rat.natCast_add]; rfl
  have k1 : ((w / 2 : Nat) : Rat) * (2 * h) ≤ (w : Rat) * h := by
    have := Rat.mul_le_mul_of_nonneg_right c1 (Rat.le_of_lt hh0)
    grind
  have k2 : ((w : Rat) + 1) * h ≤ (((w / 2 : Nat) : Rat) + 1) * (2 * h) := by
    have : (w : Rat) + 1 ≤ (((w / 2 : Nat) : Rat) + 1) * 2 := by grind
    have := Rat.mul_le_mul_of_nonneg_right this (Rat.le_of_lt hh0)
    grind
  refine ⟨(w : Rat) * h, ((w : Rat) + 1) * h, Rat.mul_nonneg Rat.natCast_nonneg (Rat.le_of_lt hh0), l1, l2, fun t => ?_, fun t => ?_⟩
  · by_cases ht : t ≤ p * f.binade + w / 2
    · left
      have := mg_le f ht
      grind
    · right
      have := mg_le f (show p * f.binade + (w / 2 + 1) ≤ t by omega)
      grind
  · by_cases ht : t + 1 ≤ p * f.binade + w / 2
    · left
      have a1 := mg_le f ht
      have a2 := mg_lt f (show t < t + 1 by omega)
      grind
    · by_cases ht2 : t = p * f.binade + w / 2
      · subst ht2
        rw [Nat.add_assoc, m1, m2]
        by_cases ho : w = 2 * (w / 2)
        · right
          have : (w : Rat) = 2 * ((w / 2 : Nat) : Rat) := by
            have := congrArg (fun n : Nat => (n : Rat)) ho
            rw [Rat.natCast_mul] at this
            exact this
          exact mid1 this
        · left
          have ho : w = 2 * (w / 2) + 1 := by omega
          have : (w : Rat) = 2 * ((w / 2 : Nat) : Rat) + 1 := by
            have := congrArg (fun n : Nat => (n : Rat)) ho
            rw [Rat.natCast_add, Rat.natCast_mul] at this
            exact this
          exact mid2 this
      · right
        have a1 := mg_le f (show p * f.binade + (w / 2 + 1) ≤ t by omega)
        have a2 := mg_lt f (show t < t + 1 by omega)
        grind

/-- A last digit that tells only that something is left over does not change what is nearest. -/
theorem near_sticky {f : Format} (hB : f.binade % 2 = 0) {S : Nat} {g : Int} {a : Rat} (hS : 2 ^ (f.fractionBits + 2) ≤ S) (hodd : S % 2 = 1)
    (h1 : ((S : Rat) - 1) * pw g < a) (h2 : a < ((S : Rat) + 1) * pw g) : Near f a (rg f S g) := by
  obtain ⟨lo, hi, _, l1, l2, t1, t2⟩ := sticky_gap (g := g) hS hodd
  have hg := pw_pos g
  exact (rg_near hB S g).between t1 t2 (by grind) (by grind) (by grind) (by grind)

/-! ### quotients -/
theorem fdiv_rnd {k : FloatKind} {x y : Nat} (hx : fin k x = true) (hy : fin k y = true) (h0 : ev k y ≠ 0) : Rnd k (ev k x / ev k y) (fdiv k x y) := by
  obtain ⟨m, i, h1, h2⟩ := read_fin hx
  obtain ⟨n, j, h1', h2'⟩ := read_fin hy
  have hn : n ≠ 0 := by
    intro e
    subst e
    have : ((0 : Nat) : Rat) * pw j = 0 := Rat.zero_mul _
    rw [this] at h2'
    apply h0
    unfold ev
    rw [← h2']
    cases sg k y <;> simp [sgd]
  unfold fdiv Format.div
  rw [h1, h1']
  simp only [Datum.quotient, if_neg hn, Option.map_some, orNan, Format.write, Nat.shiftLeft_eq]
  generalize hmore : k.format.fractionBits + 2 + n.log2 - m.log2 = more
  have hnp : (0 : Rat) < (n : Rat) := Rat.natCast_pos.2 (by omega)
  have hjp := pw_pos j
  have hd : (0 : Rat) < (n : Rat) * pw j := Rat.mul_pos hnp hjp
  have hev : ev k x / ev k y = sgd (sg k x ^^ sg k y) (((m : Rat) * pw i) / ((n : Rat) * pw j)) := by
    unfold ev
    rw [← h2, ← h2', Rat.div_def, Rat.div_def, sgd_mul]
    congr 1
    cases sg k y
    · rfl
    · simp only [sgd, cond_true]
      exact Rat.inv_eq_of_mul_eq_one (by rw [Rat.neg_mul, Rat.mul_neg, Rat.neg_neg]; exact Rat.mul_inv_cancel _ (by grind))
  -- the quotient in units
  have hq : ((m : Rat) * pw i) / ((n : Rat) * pw j) * (n : Rat) = (2 * ((m * 2 ^ more : Nat) : Rat)) * pw (i - j - more - 1) := by
    have e1 : ((m : Rat) * pw i) / ((n : Rat) * pw j) * ((n : Rat) * pw j) = (m : Rat) * pw i := Rat.div_mul_cancel (by grind)
    have e2 : ((m : Rat) * pw i) / ((n : Rat) * pw j) * (n : Rat) * pw j = ((2 * ((m * 2 ^ more : Nat) : Rat)) * pw (i - j - more - 1)) * pw j := by
      rw [Rat.mul_assoc, e1, Rat.natCast_mul, ← pw_nat]
      have : pw i = 2 * (pw (more : Nat) * (pw (i - j - more - 1) * pw j)) := by
        rw [← pw_add, ← pw_add, ← pw_succ]; congr 1; omega
      rw [this]; grind
    have l1 := Rat.le_of_mul_le_mul_right (show _ * pw j ≤ _ * pw j by rw [e2]; grind) hjp
    have l2 := Rat.le_of_mul_le_mul_right (show ((2 * ((m * 2 ^ more : Nat) : Rat)) * pw (i - j - more - 1)) * pw j ≤ ((m : Rat) * pw i) / ((n : Rat) * pw j) * (n : Rat) * pw j by rw [e2]; grind) hjp
    grind
  have hq0 : 0 ≤ ((m : Rat) * pw i) / ((n : Rat) * pw j) := by
    rw [Rat.div_def]
    exact Rat.mul_nonneg (Rat.mul_nonneg Rat.natCast_nonneg (Rat.le_of_lt (pw_pos _))) (Rat.le_of_lt (Rat.inv_pos.2 hd))
  rw [hev]
  generalize ((m : Rat) * pw i) / ((n : Rat) * pw j) = q at *
  have hu := pw_pos (i - j - more - 1)
  refine ⟨sg k x ^^ sg k y, _, nearest_eq _ _ _ _, by rw [sgd_sgd]; exact hq0, ?_⟩
  rw [sgd_sgd]
  have dm := Nat.div_add_mod (m * 2 ^ more) n
  have dl := Nat.mod_lt (m * 2 ^ more) (Nat.pos_of_ne_zero hn)
  have dmR : (n : Rat) * ((m * 2 ^ more / n : Nat) : Rat) + ((m * 2 ^ more % n : Nat) : Rat) = ((m * 2 ^ more : Nat) : Rat) := by
    rw [← Rat.natCast_mul, ← Rat.natCast_add, dm]
  by_cases hr : m * 2 ^ more % n = 0
  · rw [hr]
    simp only [bne_self_eq_false, Bool.toNat_false, Nat.add_zero]
    have : q = ((2 * (m * 2 ^ more / n) : Nat) : Rat) * pw (i - j - more - 1) := by
      rw [hr] at dmR
      have e3 : q * (n : Rat) = (((2 * (m * 2 ^ more / n) : Nat) : Rat) * pw (i - j - more - 1)) * (n : Rat) := by
        rw [hq, ← dmR, Rat.natCast_mul]
        have : ((0 : Nat) : Rat) = 0 := rfl
        have : ((2 : Nat) : Rat) = 2 := rfl
        grind
      have l1 := Rat.le_of_mul_le_mul_right (show q * (n : Rat) ≤ _ * (n : Rat) by rw [e3]; grind) hnp
      have l2 := Rat.le_of_mul_le_mul_right (show (((2 * (m * 2 ^ more / n) : Nat) : Rat) * pw (i - j - more - 1)) * (n : Rat) ≤ q * (n : Rat) by rw [e3]; grind) hnp
      grind
    rw [this]
    exact rg_near (even_k k) _ _
  · have hb : (m * 2 ^ more % n != 0).toNat = 1 := by simp [hr]
    rw [hb]
    have hm : m ≠ 0 := by
      intro e; subst e; simp at hr
    have hrp : 0 < m * 2 ^ more % n := Nat.pos_of_ne_zero hr
    have hS : 2 ^ (k.format.fractionBits + 2) ≤ 2 * (m * 2 ^ more / n) + 1 := by
      have a1 : 2 ^ m.log2 ≤ m := Nat.log2_self_le hm
      have a2 : n < 2 ^ (n.log2 + 1) := Nat.lt_log2_self
      have a3 : 2 ^ (k.format.fractionBits + 2 + n.log2) ≤ m * 2 ^ more := by
        have : 2 ^ (k.format.fractionBits + 2 + n.log2) ≤ 2 ^ (m.log2 + more) := Nat.pow_le_pow_right (by omega) (by omega)
        rw [Nat.pow_add 2 m.log2] at this
        exact Nat.le_trans this (Nat.mul_le_mul_right _ a1)
      have a4 : 2 ^ (k.format.fractionBits + 1) ≤ m * 2 ^ more / n := by
        rw [Nat.le_div_iff_mul_le (Nat.pos_of_ne_zero hn)]
        refine Nat.le_trans (Nat.mul_le_mul_left _ (Nat.le_of_lt a2)) ?_
        rw [← Nat.pow_add]
        have : k.format.fractionBits + 1 + (n.log2 + 1) = k.format.fractionBits + 2 + n.log2 := by omega
        rw [this]
        exact a3
      have : 2 ^ (k.format.fractionBits + 2) = 2 * 2 ^ (k.format.fractionBits + 1) := by rw [Nat.pow_succ, Nat.mul_comm]
      omega
    refine near_sticky (even_k k) hS (by omega) ?_ ?_
    · have : ((2 * (m * 2 ^ more / n) + 1 : Nat) : Rat) - 1 = 2 * ((m * 2 ^ more / n : Nat) : Rat) := by
        rw [Rat.natCast_add, Rat.natCast_mul]
        have : ((1 : Nat) : Rat) = 1 := rfl
        have : ((2 : Nat) : Rat) = 2 := rfl
        grind
      rw [this]
      have rp : (0 : Rat) < ((m * 2 ^ more % n : Nat) : Rat) := Rat.natCast_pos.2 hrp
      have e3 : (2 * ((m * 2 ^ more / n : Nat) : Rat)) * pw (i - j - more - 1) * (n : Rat) < q * (n : Rat) := by
        rw [hq, ← dmR]
        have := Rat.mul_pos rp hu
        grind
      exact Rat.lt_of_mul_lt_mul_right e3 (Rat.le_of_lt hnp)
    · have : ((2 * (m * 2 ^ more / n) + 1 : Nat) : Rat) + 1 = 2 * ((m * 2 ^ more / n : Nat) : Rat) + 2 := by
        rw [Rat.natCast_add, Rat.natCast_mul]
        have : ((1 : Nat) : Rat) = 1 := rfl
        have : ((2 : Nat) : Rat) = 2 := rfl
        grind
      rw [this]
      have rp : ((m * 2 ^ more % n : Nat) : Rat) < (n : Rat) := Rat.natCast_lt_natCast.2 dl
      have e3 : q * (n : Rat) < (2 * ((m * 2 ^ more / n : Nat) : Rat) + 2) * pw (i - j - more - 1) * (n : Rat) := by
        rw [hq, ← dmR]
        have := Rat.mul_lt_mul_of_pos_right rp hu
        grind
      exact Rat.lt_of_mul_lt_mul_right e3 (Rat.le_of_lt hnp)

/-! ### which numbers are words -/
theorem rep_rung (f : Format) (p : Nat) : ∀ n, n ≤ 2 * f.binade → ∃ t, mg f t = (n : Rat) * pw (f.leastPlace + p) := by
  induction p with
  | zero =>
    intro n hn
    refine ⟨0 * f.binade + n, ?_⟩
    exact mg_at f 0 n hn (.inl rfl)
  | succ p ih =>
    intro n hn
    by_cases h : f.binade ≤ n
    · exact ⟨(p + 1) * f.binade + n, mg_at f (p + 1) n hn (.inr h)⟩
    · obtain ⟨t, ht⟩ := ih (2 * n) (by omega)
      refine ⟨t, ?_⟩
      rw [ht, show f.leastPlace + ((p + 1 : Nat) : Int) = f.leastPlace + p + 1 by omega, pw_succ, Rat.natCast_mul]
      have : ((2 : Nat) : Rat) = 2 := rfl
      grind
theorem mg_inf (k : FloatKind) : mg k.format (infOf k) = match k with | .f32 => pw 128 | .f64 => pw 1024 := by
  cases k
  · have := mg_at (FloatKind.f32.format) 253 (2 * FloatKind.f32.format.binade) (Nat.le_refl _) (.inr (by decide))
    rw [show 253 * FloatKind.f32.format.binade + 2 * FloatKind.f32.format.binade = infOf .f32 by decide, show 2 * FloatKind.f32.format.binade = 2 ^ 24 by decide, ← pw_nat, ← pw_add] at this
    rw [this]; rfl
  · have := mg_at (FloatKind.f64.format) 2045 (2 * FloatKind.f64.format.binade) (Nat.le_refl _) (.inr (by decide))
    rw [show 2045 * FloatKind.f64.format.binade + 2 * FloatKind.f64.format.binade = infOf .f64 by decide, show 2 * FloatKind.f64.format.binade = 2 ^ 53 by decide, ← pw_nat, ← pw_add] at this
    rw [this]; rfl

/-- A number is a finite word of a kind. -/
def Rep (k : FloatKind) (q : Rat) : Prop := ∃ w, fin k w = true ∧ w < 2 * signOf k ∧ ev k w = q
theorem Rep.neg {k : FloatKind} {q : Rat} (h : Rep k q) : Rep k (-q) := by
  obtain ⟨w, h1, h2, h3⟩ := h
  rw [fin_iff] at h1
  have := word_sg (k := k) (s := !sg k w) (r := rung k w) (by omega)
  refine ⟨k.format.word (!sg k w) (rung k w), fin_iff.2 (by rw [this.2.1]; exact h1), this.2.2, ?_⟩
  rw [ev_word (by omega), sgd_not, ← h3]
  rfl
theorem rep_nat {k : FloatKind} {n : Nat} {e : Int} (hn : n ≤ 2 * k.format.binade) (he : k.format.leastPlace ≤ e) (hi : (n : Rat) * pw e < mg k.format (infOf k)) : Rep k ((n : Rat) * pw e) := by
  obtain ⟨t, ht⟩ := rep_rung k.format (e - k.format.leastPlace).toNat n hn
  rw [show k.format.leastPlace + ((e - k.format.leastPlace).toNat : Int) = e by omega] at ht
  have hlt : t < infOf k := lt_of_mg k.format (by rw [ht]; exact hi)
  have := word_sg (k := k) (s := false) (r := t) (by omega)
  refine ⟨k.format.word false t, fin_iff.2 (by rw [this.2.1]; exact hlt), this.2.2, ?_⟩
  rw [ev_word (by omega), ← ht]
  rfl
theorem Rnd.rep {k : FloatKind} {q : Rat} {b : Nat} (h : Rnd k q b) (hr : Rep k q) : fin k b = true ∧ b < 2 * signOf k ∧ ev k b = q := by
  obtain ⟨w, h1, h2, h3⟩ := hr
  have e := h.exact (fin_nan h1) h2 h3.symm
  refine ⟨?_, h.lt2, by rw [e, h3]⟩
  have hb := nan_false.1 h.nan
  have hw := fin_iff.1 h1
  rw [fin_iff]
  refine Nat.lt_of_not_le fun hc => ?_
  have hbi : rung k b = infOf k := by omega
  have i1 := mg_lt k.format hw
  have n1 := mg_nonneg k.format (rung k w)
  unfold ev at e
  rw [hbi] at e
  cases s1 : sg k b <;> cases s2 : sg k w <;> rw [s1, s2] at e <;> simp only [sgd, cond_true, cond_false] at e <;> grind

end Fl
end Go.Ev
