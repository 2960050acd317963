/- Merged texts: FlD FlE FlF FlG FlH FlI FlJ EvFlr FlK FlS FlR EvEven Sine Dist Dis2 Dis3 Ray ShT ShX R8. -/
import Derived.Test.YtfhpmcdbfebflaaM4
/- Floats as rational numbers: which numbers are words, quotients, other kinds. -/
set_option linter.unusedVariables false
set_option linter.unusedSimpArgs false
namespace Go.Ev
open Ieee

theorem pw_lt_of {a b : Int} (h : pw a < pw b) : a < b := by
  refine Int.lt_of_not_ge fun hc => ?_
  have := pw_le hc
  grind
namespace Fl

theorem Near.between {f : Format} {x a lo hi : Rat} {r : Nat} (h : Near f x r) (h1 : ∀ t, mg f t ≤ lo ∨ hi ≤ mg f t) (h2 : ∀ t, mg f t + mg f (t + 1) ≤ 2 * lo ∨ 2 * hi ≤ mg f t + mg f (t + 1))
    (x1 : lo < x) (x2 : x < hi) (a1 : lo < a) (a2 : a < hi) : Near f a r := by
  refine ⟨h.inf, fun t ht e => h.lo t ht ?_, fun t e => h.hi t ?_, fun t ht e => h.lt t ht ?_, fun t ht e => h.gt t ht ?_, fun t ht e => ?_⟩
  · rcases h1 t with g | g <;> grind
  · rcases h1 t with g | g <;> grind
  · rcases h2 t with g | g <;> grind
  · rcases h2 t with g | g <;> grind
  · rcases h2 t with g | g <;> grind

theorem cast_odd {w : Nat} : ((w / 2 : Nat) : Rat) * 2 ≤ (w : Rat) ∧ (w : Rat) ≤ ((w / 2 : Nat) : Rat) * 2 + 1 := by
  have h1 : w / 2 * 2 ≤ w := by omega
  have h2 : w ≤ w / 2 * 2 + 1 := by omega
  have h1 := Rat.natCast_le_natCast.2 h1
  have h2 := Rat.natCast_le_natCast.2 h2
  rw [Rat.natCast_mul] at h1
  rw [Rat.natCast_add, Rat.natCast_mul] at h2
  exact ⟨h1, h2⟩

theorem mid1 {w v h : Rat} (e : w = 2 * v) : 2 * ((w + 1) * h) ≤ v * (2 * h) + (v + 1) * (2 * h) := by subst e; grind
theorem mid2 {w v h : Rat} (e : w = 2 * v + 1) : v * (2 * h) + (v + 1) * (2 * h) ≤ 2 * (w * h) := by subst e; grind
/-- Around a number with an odd last digit there is no word and no middle of words. -/
theorem sticky_gap {f : Format} {S : Nat} {g : Int} (hS : 2 ^ (f.fractionBits + 2) ≤ S) (hodd : S % 2 = 1) :
    ∃ lo hi : Rat, 0 ≤ lo ∧ lo ≤ ((S : Rat) - 1) * pw g ∧ ((S : Rat) + 1) * pw g ≤ hi ∧ (∀ t, mg f t ≤ lo ∨ hi ≤ mg f t) ∧ (∀ t, mg f t + mg f (t + 1) ≤ 2 * lo ∨ 2 * hi ≤ mg f t + mg f (t + 1)) := by
  have hS0 : S ≠ 0 := by omega
  obtain ⟨p, c, e1, s1, s2, s3, s4, _⟩ := rg_scale f (e := g) hS0
  have hg := pw_pos g
  have b0 := B0 f
  have hSc : ((2 ^ (f.fractionBits + 2) : Nat) : Rat) ≤ (S : Rat) := Rat.natCast_le_natCast.2 hS
  -- the scale's half is an even number of units
  have hK : g + 1 < f.leastPlace + p := by
    have t1 : pw (g + 1 + (f.fractionBits + 1 : Nat)) ≤ (S : Rat) * pw g := by
      have : pw (g + 1 + (f.fractionBits + 1 : Nat)) = ((2 ^ (f.fractionBits + 2) : Nat) : Rat) * pw g := by
        rw [← pw_nat, ← pw_add]; congr 1; omega
      rw [this]
      exact Rat.mul_le_mul_of_nonneg_right hSc (Rat.le_of_lt hg)
    have t2 : (2 * f.binade : Rat) * pw (f.leastPlace + p) = pw (f.leastPlace + p + (f.fractionBits + 1 : Nat)) := by
      rw [pw_add _ ((f.fractionBits + 1 : Nat) : Int), pw_nat]
      unfold Format.binade
      rw [Nat.pow_succ, Rat.natCast_mul]
      grind
    rw [t2] at s4
    have := pw_lt_of (show pw (g + 1 + (f.fractionBits + 1 : Nat)) < pw (f.leastPlace + p + (f.fractionBits + 1 : Nat)) by grind)
    omega
  obtain ⟨K, hKe⟩ : ∃ K : Nat, f.leastPlace + p = g + 1 + (K + 1 : Nat) := ⟨(f.leastPlace + p - g - 2).toNat, by omega⟩
  have hh : pw (f.leastPlace + p) = 2 * (((2 ^ (K + 1) : Nat) : Rat) * pw g) := by
    rw [hKe, pw_add, pw_succ, pw_nat]; grind
  have hH : (2 ^ (K + 1)) % 2 = 0 := by rw [Nat.pow_succ]; simp
  have H0 := Nat.two_pow_pos (K + 1)
  generalize 2 ^ (K + 1) = H at *
  have d1 := Nat.div_add_mod S H
  have d2 := Nat.mod_lt S H0
  have d3 : S % H % 2 = 1 := by rw [Nat.mod_mod_of_dvd _ (Nat.dvd_of_mod_eq_zero hH)]; exact hodd
  generalize S / H = w at *
  generalize S % H = ρ at *
  have hh0 : 0 < (H : Rat) * pw g := Rat.mul_pos (Rat.natCast_pos.2 H0) hg
  -- the ends
  have l1 : (w : Rat) * ((H : Rat) * pw g) ≤ ((S : Rat) - 1) * pw g := by
    have : H * w + 1 ≤ S := by omega
    have := Rat.natCast_le_natCast.2 this
    rw [Rat.natCast_add, Rat.natCast_mul] at this
    have := Rat.mul_le_mul_of_nonneg_right this (Rat.le_of_lt hg)
    grind
  have l2 : ((S : Rat) + 1) * pw g ≤ ((w : Rat) + 1) * ((H : Rat) * pw g) := by
    have : S + 1 ≤ H * w + H := by omega
    have := Rat.natCast_le_natCast.2 this
    rw [Rat.natCast_add, Rat.natCast_add, Rat.natCast_mul] at this
    have := Rat.mul_le_mul_of_nonneg_right this (Rat.le_of_lt hg)
    grind
  generalize hhg : (H : Rat) * pw g = h at *
  rw [hh] at s3 s4
  -- where the scale's digits lie
  have j1 : p = 0 ∨ f.binade ≤ w / 2 := by
    rcases s3 with s3 | s3
    · exact .inl s3
    · right
      have : (2 * f.binade : Rat) * h < ((w : Rat) + 1) * h := by grind
      have := Rat.lt_of_mul_lt_mul_right this (Rat.le_of_lt hh0)
      have : ((2 * f.binade : Nat) : Rat) < ((w + 1 : Nat) : Rat) := by
        rw [Rat.natCast_add, Rat.natCast_mul]; exact this
      have := Rat.natCast_lt_natCast.1 this
      omega
  have j2 : w / 2 + 1 ≤ 2 * f.binade := by
    have : (w : Rat) * h < (4 * f.binade : Rat) * h := by grind
    have := Rat.lt_of_mul_lt_mul_right this (Rat.le_of_lt hh0)
    have : ((w : Nat) : Rat) < ((4 * f.binade : Nat) : Rat) := by
      rw [Rat.natCast_mul]; exact this
    have := Rat.natCast_lt_natCast.1 this
    omega
  obtain ⟨c1, c2⟩ := cast_odd (w := w)
  have m1 : mg f (p * f.binade + w / 2) = ((w / 2 : Nat) : Rat) * (2 * h) := by rw [mg_at f p (w / 2) (by omega) j1, hh]
  have m2 : mg f (p * f.binade + (w / 2 + 1)) = (((w / 2 : Nat) : Rat) + 1) * (2 * h) := by
    rw [mg_at f p (w / 2 + 1) j2 (by omega), hh, Rat.natCast_add]; rfl
  have k1 : ((w / 2 : Nat) : Rat) * (2 * h) ≤ (w : Rat) * h := by
    have := Rat.mul_le_mul_of_nonneg_right c1 (Rat.le_of_lt hh0)
    grind
  have k2 : ((w : Rat) + 1) * h ≤ (((w / 2 : Nat) : Rat) + 1) * (2 * h) := by
    have : (w : Rat) + 1 ≤ (((w / 2 : Nat) : Rat) + 1) * 2 := by grind
    have := Rat.mul_le_mul_of_nonneg_right this (Rat.le_of_lt hh0)
    grind
  refine ⟨(w : Rat) * h, ((w : Rat) + 1) * h, Rat.mul_nonneg Rat.natCast_nonneg (Rat.le_of_lt hh0), l1, l2, fun t => ?_, fun t => ?_⟩
  · by_cases ht : t ≤ p * f.binade + w / 2
    · left
      have := mg_le f ht
      grind
    · right
      have := mg_le f (show p * f.binade + (w / 2 + 1) ≤ t by omega)
      grind
  · by_cases ht : t + 1 ≤ p * f.binade + w / 2
    · left
      have a1 := mg_le f ht
      have a2 := mg_lt f (show t < t + 1 by omega)
      grind
    · by_cases ht2 : t = p * f.binade + w / 2
      · subst ht2
        rw [Nat.add_assoc, m1, m2]
        by_cases ho : w = 2 * (w / 2)
        · right
          have : (w : Rat) = 2 * ((w / 2 : Nat) : Rat) := by
            have := congrArg (fun n : Nat => (n : Rat)) ho
            rw [Rat.natCast_mul] at this
            exact this
          exact mid1 this
        · left
          have ho : w = 2 * (w / 2) + 1 := by omega
          have : (w : Rat) = 2 * ((w / 2 : Nat) : Rat) + 1 := by
            have := congrArg (fun n : Nat => (n : Rat)) ho
            rw [Rat.natCast_add, Rat.natCast_mul] at this
            exact this
          exact mid2 this
      · right
        have a1 := mg_le f (show p * f.binade + (w / 2 + 1) ≤ t by omega)
        have a2 := mg_lt f (show t < t + 1 by omega)
        grind

/-- A last digit that tells only that something is left over does not change what is nearest. -/
theorem near_sticky {f : Format} (hB : f.binade % 2 = 0) {S : Nat} {g : Int} {a : Rat} (hS : 2 ^ (f.fractionBits + 2) ≤ S) (hodd : S % 2 = 1)
    (h1 : ((S : Rat) - 1) * pw g < a) (h2 : a < ((S : Rat) + 1) * pw g) : Near f a (rg f S g) := by
  obtain ⟨lo, hi, _, l1, l2, t1, t2⟩ := sticky_gap (g := g) hS hodd
  have hg := pw_pos g
  exact (rg_near hB S g).between t1 t2 (by grind) (by grind) (by grind) (by grind)

/-! ### quotients -/
theorem fdiv_rnd {k : FloatKind} {x y : Nat} (hx : fin k x = true) (hy : fin k y = true) (h0 : ev k y ≠ 0) : Rnd k (ev k x / ev k y) (fdiv k x y) := by
  obtain ⟨m, i, h1, h2⟩ := read_fin hx
  obtain ⟨n, j, h1', h2'⟩ := read_fin hy
  have hn : n ≠ 0 := by
    intro e
    subst e
    have : ((0 : Nat) : Rat) * pw j = 0 := Rat.zero_mul _
    rw [this] at h2'
    apply h0
    unfold ev
    rw [← h2']
    cases sg k y <;> simp [sgd]
  unfold fdiv Format.div
  rw [h1, h1']
  simp only [Datum.quotient, if_neg hn, Option.map_some, orNan, Format.write, Nat.shiftLeft_eq]
  generalize hmore : k.format.fractionBits + 2 + n.log2 - m.log2 = more
  have hnp : (0 : Rat) < (n : Rat) := Rat.natCast_pos.2 (by omega)
  have hjp := pw_pos j
  have hd : (0 : Rat) < (n : Rat) * pw j := Rat.mul_pos hnp hjp
  have hev : ev k x / ev k y = sgd (sg k x ^^ sg k y) (((m : Rat) * pw i) / ((n : Rat) * pw j)) := by
    unfold ev
    rw [← h2, ← h2', Rat.div_def, Rat.div_def, sgd_mul]
    congr 1
    cases sg k y
    · rfl
    · simp only [sgd, cond_true]
      exact Rat.inv_eq_of_mul_eq_one (by rw [Rat.neg_mul, Rat.mul_neg, Rat.neg_neg]; exact Rat.mul_inv_cancel _ (by grind))
  -- the quotient in units
  have hq : ((m : Rat) * pw i) / ((n : Rat) * pw j) * (n : Rat) = (2 * ((m * 2 ^ more : Nat) : Rat)) * pw (i - j - more - 1) := by
    have e1 : ((m : Rat) * pw i) / ((n : Rat) * pw j) * ((n : Rat) * pw j) = (m : Rat) * pw i := Rat.div_mul_cancel (by grind)
    have e2 : ((m : Rat) * pw i) / ((n : Rat) * pw j) * (n : Rat) * pw j = ((2 * ((m * 2 ^ more : Nat) : Rat)) * pw (i - j - more - 1)) * pw j := by
      rw [Rat.mul_assoc, e1, Rat.natCast_mul, ← pw_nat]
      have : pw i = 2 * (pw (more : Nat) * (pw (i - j - more - 1) * pw j)) := by
        rw [← pw_add, ← pw_add, ← pw_succ]; congr 1; omega
      rw [this]; grind
    have l1 := Rat.le_of_mul_le_mul_right (show _ * pw j ≤ _ * pw j by rw [e2]; grind) hjp
    have l2 := Rat.le_of_mul_le_mul_right (show ((2 * ((m * 2 ^ more : Nat) : Rat)) * pw (i - j - more - 1)) * pw j ≤ ((m : Rat) * pw i) / ((n : Rat) * pw j) * (n : Rat) * pw j by rw [e2]; grind) hjp
    grind
  have hq0 : 0 ≤ ((m : Rat) * pw i) / ((n : Rat) * pw j) := by
    rw [Rat.div_def]
    exact Rat.mul_nonneg (Rat.mul_nonneg Rat.natCast_nonneg (Rat.le_of_lt (pw_pos _))) (Rat.le_of_lt (Rat.inv_pos.2 hd))
  rw [hev]
  generalize ((m : Rat) * pw i) / ((n : Rat) * pw j) = q at *
  have hu := pw_pos (i - j - more - 1)
  refine ⟨sg k x ^^ sg k y, _, nearest_eq _ _ _ _, by rw [sgd_sgd]; exact hq0, ?_⟩
  rw [sgd_sgd]
  have dm := Nat.div_add_mod (m * 2 ^ more) n
  have dl := Nat.mod_lt (m * 2 ^ more) (Nat.pos_of_ne_zero hn)
  have dmR : (n : Rat) * ((m * 2 ^ more / n : Nat) : Rat) + ((m * 2 ^ more % n : Nat) : Rat) = ((m * 2 ^ more : Nat) : Rat) := by
    rw [← Rat.natCast_mul, ← Rat.natCast_add, dm]
  by_cases hr : m * 2 ^ more % n = 0
  · rw [hr]
    simp only [bne_self_eq_false, Bool.toNat_false, Nat.add_zero]
    have : q = ((2 * (m * 2 ^ more / n) : Nat) : Rat) * pw (i - j - more - 1) := by
      rw [hr] at dmR
      have e3 : q * (n : Rat) = (((2 * (m * 2 ^ more / n) : Nat) : Rat) * pw (i - j - more - 1)) * (n : Rat) := by
        rw [hq, ← dmR, Rat.natCast_mul]
        have : ((0 : Nat) : Rat) = 0 := rfl
        have : ((2 : Nat) : Rat) = 2 := rfl
        grind
      have l1 := Rat.le_of_mul_le_mul_right (show q * (n : Rat) ≤ _ * (n : Rat) by rw [e3]; grind) hnp
      have l2 := Rat.le_of_mul_le_mul_right (show (((2 * (m * 2 ^ more / n) : Nat) : Rat) * pw (i - j - more - 1)) * (n : Rat) ≤ q * (n : Rat) by rw [e3]; grind) hnp
      grind
    rw [this]
    exact rg_near (even_k k) _ _
  · have hb : (m * 2 ^ more % n != 0).toNat = 1 := by simp [hr]
    rw [hb]
    have hm : m ≠ 0 := by
      intro e; subst e; simp at hr
    have hrp : 0 < m * 2 ^ more % n := Nat.pos_of_ne_zero hr
    have hS : 2 ^ (k.format.fractionBits + 2) ≤ 2 * (m * 2 ^ more / n) + 1 := by
      have a1 : 2 ^ m.log2 ≤ m := Nat.log2_self_le hm
      have a2 : n < 2 ^ (n.log2 + 1) := Nat.lt_log2_self
      have a3 : 2 ^ (k.format.fractionBits + 2 + n.log2) ≤ m * 2 ^ more := by
        have : 2 ^ (k.format.fractionBits + 2 + n.log2) ≤ 2 ^ (m.log2 + more) := Nat.pow_le_pow_right (by omega) (by omega)
        rw [Nat.pow_add 2 m.log2] at this
        exact Nat.le_trans this (Nat.mul_le_mul_right _ a1)
      have a4 : 2 ^ (k.format.fractionBits + 1) ≤ m * 2 ^ more / n := by
        rw [Nat.le_div_iff_mul_le (Nat.pos_of_ne_zero hn)]
        refine Nat.le_trans (Nat.mul_le_mul_left _ (Nat.le_of_lt a2)) ?_
        rw [← Nat.pow_add]
        have : k.format.fractionBits + 1 + (n.log2 + 1) = k.format.fractionBits + 2 + n.log2 := by omega
        rw [this]
        exact a3
      have : 2 ^ (k.format.fractionBits + 2) = 2 * 2 ^ (k.format.fractionBits + 1) := by rw [Nat.pow_succ, Nat.mul_comm]
      omega
    refine near_sticky (even_k k) hS (by omega) ?_ ?_
    · have : ((2 * (m * 2 ^ more / n) + 1 : Nat) : Rat) - 1 = 2 * ((m * 2 ^ more / n : Nat) : Rat) := by
        rw [Rat.natCast_add, Rat.natCast_mul]
        have : ((1 : Nat) : Rat) = 1 := rfl
        have : ((2 : Nat) : Rat) = 2 := rfl
        grind
      rw [this]
      have rp : (0 : Rat) < ((m * 2 ^ more % n : Nat) : Rat) := Rat.natCast_pos.2 hrp
      have e3 : (2 * ((m * 2 ^ more / n : Nat) : Rat)) * pw (i - j - more - 1) * (n : Rat) < q * (n : Rat) := by
        rw [hq, ← dmR]
        have := Rat.mul_pos rp hu
        grind
      exact Rat.lt_of_mul_lt_mul_right e3 (Rat.le_of_lt hnp)
    · have : ((2 * (m * 2 ^ more / n) + 1 : Nat) : Rat) + 1 = 2 * ((m * 2 ^ more / n : Nat) : Rat) + 2 := by
        rw [Rat.natCast_add, Rat.natCast_mul]
        have : ((1 : Nat) : Rat) = 1 := rfl
        have : ((2 : Nat) : Rat) = 2 := rfl
        grind
      rw [this]
      have rp : ((m * 2 ^ more % n : Nat) : Rat) < (n : Rat) := Rat.natCast_lt_natCast.2 dl
      have e3 : q * (n : Rat) < (2 * ((m * 2 ^ more / n : Nat) : Rat) + 2) * pw (i - j - more - 1) * (n : Rat) := by
        rw [hq, ← dmR]
        have := Rat.mul_lt_mul_of_pos_right rp hu
        grind
      exact Rat.lt_of_mul_lt_mul_right e3 (Rat.le_of_lt hnp)

/-! ### which numbers are words -/
theorem rep_rung (f : Format) (p : Nat) : ∀ n, n ≤ 2 * f.binade → ∃ t, mg f t = (n : Rat) * pw (f.leastPlace + p) := by
  induction p with
  | zero =>
    intro n hn
    refine ⟨0 * f.binade + n, ?_⟩
    exact mg_at f 0 n hn (.inl rfl)
  | succ p ih =>
    intro n hn
    by_cases h : f.binade ≤ n
    · exact ⟨(p + 1) * f.binade + n, mg_at f (p + 1) n hn (.inr h)⟩
    · obtain ⟨t, ht⟩ := ih (2 * n) (by omega)
      refine ⟨t, ?_⟩
      rw [ht, show f.leastPlace + ((p + 1 : Nat) : Int) = f.leastPlace + p + 1 by omega, pw_succ, Rat.natCast_mul]
      have : ((2 : Nat) : Rat) = 2 := rfl
      grind
theorem mg_inf (k : FloatKind) : mg k.format (infOf k) = match k with | .f32 => pw 128 | .f64 => pw 1024 := by
  cases k
  · have := mg_at (FloatKind.f32.format) 253 (2 * FloatKind.f32.format.binade) (Nat.le_refl _) (.inr (by decide))
    rw [show 253 * FloatKind.f32.format.binade + 2 * FloatKind.f32.format.binade = infOf .f32 by decide, show 2 * FloatKind.f32.format.binade = 2 ^ 24 by decide, ← pw_nat, ← pw_add] at this
    rw [this]; rfl
  · have := mg_at (FloatKind.f64.format) 2045 (2 * FloatKind.f64.format.binade) (Nat.le_refl _) (.inr (by decide))
    rw [show 2045 * FloatKind.f64.format.binade + 2 * FloatKind.f64.format.binade = infOf .f64 by decide, show 2 * FloatKind.f64.format.binade = 2 ^ 53 by decide, ← pw_nat, ← pw_add] at this
    rw [this]; rfl

/-- A number is a finite word of a kind. -/
def Rep (k : FloatKind) (q : Rat) : Prop := ∃ w, fin k w = true ∧ w < 2 * signOf k ∧ ev k w = q
theorem Rep.neg {k : FloatKind} {q : Rat} (h : Rep k q) : Rep k (-q) := by
  obtain ⟨w, h1, h2, h3⟩ := h
  rw [fin_iff] at h1
  have := word_sg (k := k) (s := !sg k w) (r := rung k w) (by omega)
  refine ⟨k.format.word (!sg k w) (rung k w), fin_iff.2 (by rw [this.2.1]; exact h1), this.2.2, ?_⟩
  rw [ev_word (by omega), sgd_not, ← h3]
  rfl
theorem rep_nat {k : FloatKind} {n : Nat} {e : Int} (hn : n ≤ 2 * k.format.binade) (he : k.format.leastPlace ≤ e) (hi : (n : Rat) * pw e < mg k.format (infOf k)) : Rep k ((n : Rat) * pw e) := by
  obtain ⟨t, ht⟩ := rep_rung k.format (e - k.format.leastPlace).toNat n hn
  rw [show k.format.leastPlace + ((e - k.format.leastPlace).toNat : Int) = e by omega] at ht
  have hlt : t < infOf k := lt_of_mg k.format (by rw [ht]; exact hi)
  have := word_sg (k := k) (s := false) (r := t) (by omega)
  refine ⟨k.format.word false t, fin_iff.2 (by rw [this.2.1]; exact hlt), this.2.2, ?_⟩
  rw [ev_word (by omega), ← ht]
  rfl
theorem Rnd.rep {k : FloatKind} {q : Rat} {b : Nat} (h : Rnd k q b) (hr : Rep k q) : fin k b = true ∧ b < 2 * signOf k ∧ ev k b = q := by
  obtain ⟨w, h1, h2, h3⟩ := hr
  have e := h.exact (fin_nan h1) h2 h3.symm
  refine ⟨?_, h.lt2, by rw [e, h3]⟩
  have hb := nan_false.1 h.nan
  have hw := fin_iff.1 h1
  rw [fin_iff]
  refine Nat.lt_of_not_le fun hc => ?_
  have hbi : rung k b = infOf k := by omega
  have i1 := mg_lt k.format hw
  have n1 := mg_nonneg k.format (rung k w)
  unfold ev at e
  rw [hbi] at e
  cases s1 : sg k b <;> cases s2 : sg k w <;> rw [s1, s2] at e <;> simp only [sgd, cond_true, cond_false] at e <;> grind

end Fl
end Go.Ev

/- Floats as rational numbers: exact steps, kinds, signs. -/
set_option linter.unusedVariables false
set_option linter.unusedSimpArgs false
namespace Go.Ev
open Ieee

namespace Fl

/-- A finite word that stands for a number. -/
structure Ex (k : FloatKind) (x : Nat) (q : Rat) : Prop where
  f : fin k x = true
  l : x < 2 * signOf k
  e : ev k x = q
variable {k : FloatKind} {x y : Nat} {p q : Rat}
theorem Ex.nan (h : Ex k x q) : Go.Ev.nan k x = false := fin_nan h.f
theorem Rnd.ex (h : Rnd k q x) (hr : Rep k q) : Ex k x q := let ⟨a, b, c⟩ := h.rep hr; ⟨a, b, c⟩
theorem Ex.rep (h : Ex k x q) : Rep k q := ⟨x, h.f, h.l, h.e⟩
theorem Ex.radd (hx : Ex k x p) (hy : Ex k y q) : Rnd k (p + q) (fadd k x y) := by
  have := fadd_rnd hx.f hy.f; rwa [hx.e, hy.e] at this
theorem Ex.rsub (hx : Ex k x p) (hy : Ex k y q) : Rnd k (p - q) (fsub k x y) := by
  have := fsub_rnd hx.f hy.f; rwa [hx.e, hy.e] at this
theorem Ex.rmul (hx : Ex k x p) (hy : Ex k y q) : Rnd k (p * q) (fmul k x y) := by
  have := fmul_rnd hx.f hy.f; rwa [hx.e, hy.e] at this
theorem Ex.rdiv (hx : Ex k x p) (hy : Ex k y q) (h0 : q ≠ 0) : Rnd k (p / q) (fdiv k x y) := by
  have := fdiv_rnd hx.f hy.f (by rw [hy.e]; exact h0); rwa [hx.e, hy.e] at this
theorem Ex.add (hx : Ex k x p) (hy : Ex k y q) (h : Rep k (p + q)) : Ex k (fadd k x y) (p + q) := (hx.radd hy).ex h
theorem Ex.sub (hx : Ex k x p) (hy : Ex k y q) (h : Rep k (p - q)) : Ex k (fsub k x y) (p - q) := (hx.rsub hy).ex h
theorem Ex.mul (hx : Ex k x p) (hy : Ex k y q) (h : Rep k (p * q)) : Ex k (fmul k x y) (p * q) := (hx.rmul hy).ex h
theorem Ex.div (hx : Ex k x p) (hy : Ex k y q) (h0 : q ≠ 0) (h : Rep k (p / q)) : Ex k (fdiv k x y) (p / q) := (hx.rdiv hy h0).ex h
theorem Ex.feq (hx : Ex k x p) (hy : Ex k y q) : feq k x y = decide (p = q) := by rw [feq_ev hx.nan hy.nan, hx.e, hy.e]
theorem Ex.flt (hx : Ex k x p) (hy : Ex k y q) : flt k x y = decide (p < q) := by rw [flt_ev hx.nan hy.nan, hx.e, hy.e]
theorem Ex.fle (hx : Ex k x p) (hy : Ex k y q) : fle k x y = decide (p ≤ q) := by rw [fle_ev hx.nan hy.nan, hx.e, hy.e]
theorem Ex.fgt (hx : Ex k x p) (hy : Ex k y q) : fgt k x y = decide (q < p) := by rw [fgt_ev hx.nan hy.nan, hx.e, hy.e]
theorem Ex.fge (hx : Ex k x p) (hy : Ex k y q) : fge k x y = decide (q ≤ p) := by rw [fge_ev hx.nan hy.nan, hx.e, hy.e]
/-- Two words of one number that is not zero are one word. -/
theorem Ex.inj (hx : Ex k x p) (hy : Ex k y p) (h0 : p ≠ 0) : x = y := ev_inj hx.l hy.l (by rw [hx.e, hy.e]) (by rw [hx.e]; exact h0)

/-! ### which numbers are words -/
theorem rep_int {n : Int} {e : Int} (hn : n.natAbs ≤ 2 * k.format.binade) (he : k.format.leastPlace ≤ e) (hi : (n.natAbs : Rat) * pw e < mg k.format (infOf k)) : Rep k ((n : Rat) * pw e) := by
  have h := rep_nat hn he hi
  by_cases h0 : 0 ≤ n
  · have : (n : Rat) = (n.natAbs : Rat) := by
      have : n = (n.natAbs : Int) := by omega
      exact congrArg (fun z : Int => (z : Rat)) this
    rw [this]; exact h
  · have : (n : Rat) = -(n.natAbs : Rat) := by
      have : n = -(n.natAbs : Int) := by omega
      have := congrArg (fun z : Int => (z : Rat)) this
      rw [Rat.intCast_neg] at this
      exact this
    rw [this, Rat.neg_mul]
    exact h.neg
theorem rep32 (n : Int) (s : Nat) (h : q * ((2 ^ s : Nat) : Rat) = n) (h1 : n.natAbs ≤ 16777216) (h2 : s ≤ 149) : Rep .f32 q := by
  have e : q = (n : Rat) * pw (-(s : Int)) := by
    rw [← h, ← pw_nat, Rat.mul_assoc, ← pw_add, Int.add_right_neg, pw_zero, Rat.mul_one]
  rw [e]
  refine rep_int h1 (by have : FloatKind.f32.format.leastPlace = -149 := rfl; omega) ?_
  rw [mg_inf]
  have a1 : pw (-(s : Int)) ≤ pw 0 := pw_le (by omega)
  have a2 : (n.natAbs : Rat) ≤ ((2 ^ 24 : Nat) : Rat) := Rat.natCast_le_natCast.2 h1
  have a3 : (n.natAbs : Rat) * pw (-(s : Int)) ≤ (n.natAbs : Rat) * pw 0 := Rat.mul_le_mul_of_nonneg_left a1 Rat.natCast_nonneg
  have a4 : pw ((24 : Nat) : Int) < pw 128 := by
    have : pw 128 = ((2 ^ 128 : Nat) : Rat) := pw_nat 128
    rw [pw_nat, this]
    exact Rat.natCast_lt_natCast.2 (by decide)
  rw [pw_nat] at a4
  rw [pw_zero] at a3
  have : (n.natAbs : Rat) * pw (-(s : Int)) < pw 128 := by grind
  exact this
/-! ### integers as floats -/
/-! ### signs -/
theorem xor_low {n r : Nat} (h : r < 2 ^ n) : r ^^^ 2 ^ n = 2 ^ n + r := by
  apply Nat.eq_of_testBit_eq
  intro i
  rw [Nat.testBit_xor, Nat.testBit_two_pow]
  rcases Nat.lt_trichotomy i n with hi | hi | hi
  · rw [Nat.testBit_two_pow_add_gt hi, decide_eq_false (by omega), Bool.xor_false]
  · subst hi
    rw [Nat.testBit_two_pow_add_eq, Nat.testBit_lt_two_pow h]
    simp
  · have h1 : 2 ^ n + r < 2 ^ i := by
      have : 2 ^ (n + 1) ≤ 2 ^ i := Nat.pow_le_pow_right (by omega) hi
      rw [Nat.pow_succ] at this
      omega
    rw [Nat.testBit_lt_two_pow h1, Nat.testBit_lt_two_pow (by omega : r < 2 ^ i), decide_eq_false (by omega)]
    rfl
theorem sign_two (k : FloatKind) : ∃ n, signOf k = 2 ^ n := by
  cases k
  · exact ⟨31, rfl⟩
  · exact ⟨63, rfl⟩
theorem xor_word (k : FloatKind) {s : Bool} {r : Nat} (h : r ≤ infOf k) : k.format.word s r ^^^ signOf k = k.format.word (!s) r := by
  obtain ⟨n, hn⟩ := sign_two k
  have h2 := inf_lt_sign k
  unfold Format.word
  rw [sign_eq, hn]
  have := xor_low (n := n) (r := r) (by omega)
  cases s
  · simp only [Bool.not_false, Bool.false_eq_true, if_false, if_true]
    exact this
  · simp only [Bool.not_true, Bool.false_eq_true, if_false, if_true]
    rw [← this, Nat.xor_assoc, Nat.xor_self, Nat.xor_zero]
theorem fneg_word (hx : Go.Ev.nan k x = false) (hl : x < 2 * signOf k) : fneg k x = k.format.word (!sg k x) (rung k x) := by
  have hr := nan_false.1 hx
  unfold fneg
  have h1 := xor_word k (s := sg k x) hr
  rw [word_of hl] at h1
  rw [h1, canon_not (nan_word _ hr)]
theorem fneg_ev (hx : Go.Ev.nan k x = false) (hl : x < 2 * signOf k) : ev k (fneg k x) = -ev k x ∧ Go.Ev.nan k (fneg k x) = false ∧ fneg k x < 2 * signOf k ∧ rung k (fneg k x) = rung k x ∧ sg k (fneg k x) = !sg k x := by
  have hr := nan_false.1 hx
  rw [fneg_word hx hl]
  have hw := word_sg (k := k) (s := !sg k x) hr
  refine ⟨?_, nan_word _ hr, hw.2.2, hw.2.1, hw.1⟩
  rw [ev_word hr, sgd_not]; rfl
theorem Ex.neg (hx : Ex k x p) : Ex k (fneg k x) (-p) := by
  obtain ⟨h1, h2, h3, h4, _⟩ := fneg_ev hx.nan hx.l
  exact ⟨by rw [fin_iff, h4]; exact fin_iff.1 hx.f, h3, by rw [h1, hx.e]⟩

/-! ### finite or not -/
theorem sub_self (hl : x < 2 * signOf k) : Go.Ev.feq k (fsub k x x) 0 = fin k x := by
  have z : Ex k 0 0 := ⟨by cases k <;> decide, by cases k <;> decide, (ev_zero (by cases k <;> decide)).2 (.inl rfl)⟩
  by_cases h : fin k x = true
  · have hx : Ex k x (ev k x) := ⟨h, hl, rfl⟩
    have h0 : ev k x - ev k x = 0 := by grind
    have := (hx.sub hx (by rw [h0]; exact z.rep)).feq z
    rw [this, h0, h]; simp
  · have hf : fin k x = false := by simpa using h
    rw [hf]
    have : fsub k x x = qnan k := by
      unfold fsub Format.sub
      cases hn : Go.Ev.nan k x with
      | true =>
        obtain ⟨s, t, e⟩ := read_nan hn
        rw [e]; rfl
      | false =>
        have hr := nan_false.1 hn
        have : ¬ rung k x < infOf k := fun hc => h (fin_iff.2 hc)
        rw [read_inf (by omega)]
        cases sg k x <;> rfl
    rw [this]
    exact feq_nan (.inl (nan_qnan k))

/-! ### from kind to kind -/
theorem read_fin2 {b : Nat} (h : fin k b = true) : ∃ m e, k.format.read b = .number (sg k b) m e ∧ (m : Rat) * pw e = mg k.format (rung k b) ∧ m < 2 * k.format.binade ∧ k.format.leastPlace ≤ e := by
  obtain ⟨m, e, h1, h2⟩ := read_fin h
  refine ⟨m, e, h1, h2, ?_⟩
  rw [fin_iff] at h
  unfold Format.read at h1
  simp only [sign_eq, inf_eq] at h1
  unfold rung at h
  have b0 := B0 k.format
  by_cases g1 : b % signOf k < k.format.binade
  · rw [if_pos g1] at h1
    injection h1 with _ h3 h4
    subst h3; subst h4
    exact ⟨by omega, Int.le_refl _⟩
  · rw [if_neg g1, if_pos h] at h1
    injection h1 with _ h3 h4
    subst h3; subst h4
    have := Nat.mod_lt (b % signOf k) b0
    exact ⟨by omega, by omega⟩
theorem widen_ex {b : Nat} (h : Ex .f32 b q) : Ex .f64 (widen b) q := by
  obtain ⟨m, e, h1, h2, h3, h4⟩ := read_fin2 h.f
  have hq : sgd (sg .f32 b) ((m : Rat) * pw e) = q := by rw [h2]; exact h.e
  have hw : widen b = FloatKind.f64.format.nearest (sg .f32 b) m e := by
    unfold widen FloatKind.encode FloatKind.decode
    rw [h.nan, h1]
    rfl
  rw [hw]
  refine (Rnd.of hq).ex ?_
  have hr : Rep .f64 ((m : Rat) * pw e) := by
    refine rep_nat ?_ ?_ ?_
    · have : FloatKind.f32.format.binade = 8388608 := rfl
      have : FloatKind.f64.format.binade = 4503599627370496 := rfl
      omega
    · have : FloatKind.f32.format.leastPlace = -149 := rfl
      have : FloatKind.f64.format.leastPlace = -1074 := rfl
      omega
    · rw [h2]
      have a1 := mg_lt FloatKind.f32.format (fin_iff.1 h.f)
      have a2 : mg FloatKind.f32.format (infOf .f32) = pw 128 := mg_inf .f32
      have a3 : mg FloatKind.f64.format (infOf .f64) = pw 1024 := mg_inf .f64
      have a4 : pw 128 ≤ pw 1024 := pw_le (by omega)
      rw [a3]; rw [a2] at a1
      grind
  rw [← hq]
  cases sg .f32 b
  · exact hr
  · exact hr.neg
theorem narrow_rnd {b : Nat} (h : Ex .f64 b q) : Rnd .f32 q (narrow b) := by
  obtain ⟨m, e, h1, h2, h3, h4⟩ := read_fin2 h.f
  have hq : sgd (sg .f64 b) ((m : Rat) * pw e) = q := by rw [h2]; exact h.e
  have hw : narrow b = FloatKind.f32.format.nearest (sg .f64 b) m e := by
    unfold narrow FloatKind.encode FloatKind.decode
    rw [h.nan, h1]
    rfl
  rw [hw]
  exact Rnd.of hq
theorem ovf_false {b : Nat} (h : Ex .f64 b q) (h2 : fin .f32 (narrow b) = true) : ovf b = false := by
  obtain ⟨m, e, h1, _⟩ := read_fin2 h.f
  have hw : narrow b = FloatKind.f32.encode (.number (sg .f64 b) m e) := by
    unfold narrow FloatKind.decode
    rw [h.nan, h1]
    rfl
  unfold ovf FloatKind.decode
  rw [h1]
  simp only []
  rw [← hw]
  obtain ⟨m', e', g1, _⟩ := read_fin2 h2
  rw [g1]
  rfl
theorem narrow_ex {b : Nat} (h : Ex .f64 b q) (hr : Rep .f32 q) : Ex .f32 (narrow b) q ∧ ovf b = false := by
  have := (narrow_rnd h).ex hr
  exact ⟨this, ovf_false h this.f⟩

end Fl
end Go.Ev

/- Floats as rational numbers: the order of words, the next word, and between two words. -/
set_option linter.unusedVariables false
set_option linter.unusedSimpArgs false
namespace Go.Ev
open Ieee

namespace Fl
variable {k : FloatKind} {x y : Nat}

/-- The place of a word among all words that are numbers. -/
def pos (k : FloatKind) (x : Nat) : Int := bif sg k x then -(rung k x : Int) else (rung k x : Int)
theorem ev_lt_iff : ev k x < ev k y ↔ pos k x < pos k y := by
  have nx := mg_nonneg k.format (rung k x)
  have ny := mg_nonneg k.format (rung k y)
  unfold ev pos
  cases s1 : sg k x <;> cases s2 : sg k y <;> simp only [sgd, cond_true, cond_false]
  · constructor
    · intro h; have := lt_of_mg _ h; omega
    · intro h; exact mg_lt _ (by omega)
  · constructor
    · intro h; grind
    · intro h; omega
  · constructor
    · intro h
      by_cases h1 : rung k x = 0
      · by_cases h2 : rung k y = 0
        · rw [h1, h2, mg_zero] at h; grind
        · omega
      · omega
    · intro h
      have z := mg_zero k.format
      by_cases h1 : rung k x = 0
      · have := mg_lt k.format (show 0 < rung k y by omega)
        grind
      · have := mg_lt k.format (show 0 < rung k x by omega)
        grind
  · constructor
    · intro h
      have := lt_of_mg k.format (show mg k.format (rung k y) < mg k.format (rung k x) by grind)
      omega
    · intro h
      have := mg_lt k.format (show rung k y < rung k x by omega)
      grind
theorem ev_eq_iff : ev k x = ev k y ↔ pos k x = pos k y := by
  have h1 := @ev_lt_iff k x y
  have h2 := @ev_lt_iff k y x
  constructor
  · intro h
    have := fun c => h1.2 c
    have := fun c => h2.2 c
    have a : ¬ pos k x < pos k y := fun c => by have := h1.2 c; grind
    have b : ¬ pos k y < pos k x := fun c => by have := h2.2 c; grind
    omega
  · intro h
    have a : ¬ ev k x < ev k y := fun c => by have := h1.1 c; omega
    have b : ¬ ev k y < ev k x := fun c => by have := h2.1 c; omega
    grind
theorem ev_le_iff : ev k x ≤ ev k y ↔ pos k x ≤ pos k y := by
  have h2 := @ev_lt_iff k y x
  rw [← Rat.not_lt, h2]
  omega
section
variable (hx : nan k x = false) (hy : nan k y = false)
include hx hy
end

theorem fin_pos (hx : nan k x = false) : fin k x = true ↔ -(infOf k : Int) < pos k x ∧ pos k x < infOf k := by
  have := nan_false.1 hx
  rw [fin_iff]
  unfold pos
  cases sg k x <;> simp only [cond_true, cond_false] <;> omega

theorem x_cases (hl : x < 2 * signOf k) : (sg k x = false ∧ x = rung k x) ∨ (sg k x = true ∧ x = signOf k + rung k x) := by
  have := word_of hl
  unfold Format.word at this
  rw [sign_eq] at this
  cases h : sg k x <;> simp only [h, Bool.false_eq_true, if_false, if_true] at this
  · exact .inl ⟨rfl, this.symm⟩
  · exact .inr ⟨rfl, this.symm⟩
/-! ### between two words -/
theorem Near.tie_val {f : Format} {a : Rat} {r t : Nat} (h : Near f a r) (ht : t < f.infRung) (e : a = (mg f t + mg f (t + 1)) / 2) : r = t + t % 2 := h.tie t ht (by grind)
theorem Rnd.tie {b t : Nat} {s : Bool} (h : Rnd k (sgd s ((mg k.format t + mg k.format (t + 1)) / 2)) b) (ht : t < infOf k) : ev k b = sgd s (mg k.format (t + t % 2)) := by
  obtain ⟨s', r, rfl, h1, h2⟩ := h
  have hi := h2.inf
  rw [inf_eq] at hi
  have n1 := mg_nonneg k.format t
  have n2 := mg_lt k.format (show t < t + 1 by omega)
  have hs : s' = s := by
    cases s <;> cases s' <;> first | rfl | (exfalso; simp only [sgd, cond_true, cond_false] at h1; grind)
  subst hs
  rw [sgd_sgd] at h2
  have := h2.tie_val (by rw [inf_eq]; exact ht) rfl
  rw [ev_word hi, this]
theorem Rnd.lower {b t : Nat} {s : Bool} {a : Rat} (h : Rnd k (sgd s a) b) (ht : t < infOf k) (g0 : 0 < a) (g1 : mg k.format t ≤ a) (g2 : 2 * a < mg k.format t + mg k.format (t + 1)) : ev k b = sgd s (mg k.format t) := by
  obtain ⟨s', r, rfl, h1, h2⟩ := h
  have hi := h2.inf
  rw [inf_eq] at hi
  have hs : s' = s := by
    cases s <;> cases s' <;> first | rfl | (exfalso; simp only [sgd, cond_true, cond_false] at h1; grind)
  subst hs
  rw [sgd_sgd] at h2
  have a1 := h2.lo t (by rw [inf_eq]; omega) g1
  have a2 := h2.lt t (by rw [inf_eq]; omega) g2
  rw [ev_word hi, show r = t by omega]
theorem Rnd.upper {b t : Nat} {s : Bool} {a : Rat} (h : Rnd k (sgd s a) b) (ht : t < infOf k) (g0 : 0 < a) (g1 : a ≤ mg k.format (t + 1)) (g2 : mg k.format t + mg k.format (t + 1) < 2 * a) : ev k b = sgd s (mg k.format (t + 1)) := by
  obtain ⟨s', r, rfl, h1, h2⟩ := h
  have hi := h2.inf
  rw [inf_eq] at hi
  have hs : s' = s := by
    cases s <;> cases s' <;> first | rfl | (exfalso; simp only [sgd, cond_true, cond_false] at h1; grind)
  subst hs
  rw [sgd_sgd] at h2
  have a1 := h2.hi (t + 1) g1
  have a2 := h2.gt t (by rw [inf_eq]; omega) g2
  rw [ev_word hi, show r = t + 1 by omega]

end Fl
end Go.Ev

/- Floats as rational numbers: the middle of two neighbours. -/
set_option linter.unusedVariables false
set_option linter.unusedSimpArgs false
namespace Go.Ev
open Ieee

namespace Fl
variable {k : FloatKind} {x y : Nat}

theorem fin_of_ev {b w : Nat} (hb : nan k b = false) (hw : fin k w = true) (e : ev k b = ev k w) : fin k b = true := by
  have h1 := (fin_pos (fin_nan hw)).1 hw
  rw [fin_pos hb, ev_eq_iff.1 e]
  exact h1
theorem ev_of_pos {s : Bool} {r : Nat} (h : pos k x = bif s then -(r : Int) else (r : Int)) : ev k x = sgd s (mg k.format r) := by
  have z := mg_zero k.format
  unfold pos at h
  unfold ev
  cases s1 : sg k x <;> cases s <;> rw [s1] at h <;> simp only [cond_true, cond_false] at h <;> simp only [sgd, cond_true, cond_false]
  · rw [show rung k x = r by omega]
  · have h1 : rung k x = 0 := by omega
    have h2 : r = 0 := by omega
    rw [h1, h2, z]; rfl
  · have h1 : rung k x = 0 := by omega
    have h2 : r = 0 := by omega
    rw [h1, h2, z]; rfl
  · rw [show rung k x = r by omega]

theorem rep64_pw {n : Nat} {e : Int} {s : Bool} (hn : n ≤ 9007199254740992) (h1 : -1074 ≤ e) (h2 : e ≤ 900) : Rep .f64 (sgd s ((n : Rat) * pw e)) := by
  have h : Rep .f64 ((n : Rat) * pw e) := by
    refine rep_nat hn h1 ?_
    rw [mg_inf]
    have a1 : pw e ≤ pw 900 := pw_le h2
    have a2 : (n : Rat) ≤ ((2 ^ 53 : Nat) : Rat) := Rat.natCast_le_natCast.2 hn
    have a3 : (n : Rat) * pw e ≤ (n : Rat) * pw 900 := Rat.mul_le_mul_of_nonneg_left a1 Rat.natCast_nonneg
    have a4 : (n : Rat) * pw 900 ≤ ((2 ^ 53 : Nat) : Rat) * pw 900 := Rat.mul_le_mul_of_nonneg_right a2 (Rat.le_of_lt (pw_pos _))
    have a5 : ((2 ^ 53 : Nat) : Rat) * pw 900 = pw 953 := by rw [← pw_nat, ← pw_add]; rfl
    have a6 := pw_succ 953
    have a7 := pw_pos 953
    have a8 : pw (953 + 1) ≤ pw 1024 := pw_le (by omega)
    have : (n : Rat) * pw e < pw 1024 := by grind
    exact this
  cases s
  · exact h
  · exact h.neg

theorem ex_two : Ex .f64 4611686018427387904 2 := by
  refine ⟨by decide, by decide, ?_⟩
  have h : mg FloatKind.f64.format (1023 * FloatKind.f64.format.binade + FloatKind.f64.format.binade) = _ := mg_at FloatKind.f64.format 1023 FloatKind.f64.format.binade (by omega) (.inr (Nat.le_refl _))
  rw [show 1023 * FloatKind.f64.format.binade + FloatKind.f64.format.binade = rung .f64 4611686018427387904 by decide +kernel, show FloatKind.f64.format.binade = 2 ^ 52 from rfl, ← pw_nat, ← pw_add] at h
  have : sg .f64 4611686018427387904 = false := by decide
  unfold ev
  rw [this, h, show ((52 : Nat) : Int) + (FloatKind.f64.format.leastPlace + (1023 : Nat)) = 0 + 1 from rfl, pw_succ, pw_zero]
  exact Rat.mul_one 2

theorem par_rung {s : Bool} {t : Nat} (px : pos .f32 x = (bif s then -((t + 1 : Nat) : Int) else (t : Int))) (lx : x < 2 * signOf .f32) : x % 2 = (bif s then t + 1 else t) % 2 := by
  obtain ⟨n, hs2⟩ : ∃ n, signOf .f32 = 2 * n := ⟨1073741824, rfl⟩
  have hrg : rung .f32 x = (bif s then t + 1 else t) := by
    unfold pos at px
    cases h1 : sg .f32 x <;> cases s <;> rw [h1] at px <;> simp only [cond_true, cond_false] at px ⊢ <;> omega
  rw [← hrg]
  have := x_cases lx
  rw [hs2] at this
  rcases this with ⟨_, b⟩ | ⟨_, b⟩ <;> omega
/-- The middle of two neighbours, and the middles between it and them, as 32-bit numbers. -/
theorem narrowed (hx : fin .f32 x = true) (lx : x < 2 * signOf .f32) (hy : fin .f32 y = true) (ly : y < 2 * signOf .f32) (hp : pos .f32 y = pos .f32 x + 1)
    {mid low high : Nat} (e1 : mid = fdiv .f64 (fadd .f64 (widen x) (widen y)) 4611686018427387904) (e2 : low = fdiv .f64 (fadd .f64 (widen x) mid) 4611686018427387904)
    (e3 : high = fdiv .f64 (fadd .f64 (widen y) mid) 4611686018427387904) :
    (ovf mid = false ∧ ovf low = false ∧ ovf high = false) ∧ (feq .f32 (narrow low) x = true ∧ feq .f32 (narrow high) y = true) ∧ feq .f32 (narrow mid) (if x % 2 = 1 then y else x) = true := by
  -- the two rungs
  obtain ⟨s, t, ht, px, py⟩ : ∃ (s : Bool) (t : Nat), t + 1 < infOf .f32 ∧ pos .f32 x = (bif s then -((t + 1 : Nat) : Int) else (t : Int)) ∧ pos .f32 y = (bif s then -((t : Nat) : Int) else ((t + 1 : Nat) : Int)) := by
    have r1 := (fin_pos (fin_nan hx)).1 hx
    have r2 := (fin_pos (fin_nan hy)).1 hy
    by_cases h : 0 ≤ pos .f32 x
    · exact ⟨false, (pos .f32 x).toNat, by omega, by simp only [cond_false]; omega, by simp only [cond_false]; omega⟩
    · exact ⟨true, (-pos .f32 x - 1).toNat, by omega, by simp only [cond_true]; omega, by simp only [cond_true]; omega⟩
  have vx : ev .f32 x = sgd s (mg FloatKind.f32.format (bif s then t + 1 else t)) := ev_of_pos (by rw [px]; cases s <;> rfl)
  have vy : ev .f32 y = sgd s (mg FloatKind.f32.format (bif s then t else t + 1)) := ev_of_pos (by rw [py]; cases s <;> rfl)
  obtain ⟨p, j, rfl, j1, j2⟩ := scale FloatKind.f32.format t
  have hB : FloatKind.f32.format.binade = 8388608 := rfl
  have hL : FloatKind.f32.format.leastPlace = -149 := rfl
  have hI : infOf .f32 = 2139095040 := rfl
  have m0 : mg FloatKind.f32.format (p * FloatKind.f32.format.binade + j) = (j : Rat) * pw (-149 + p) := mg_at _ p j (by omega) j2
  have m1 : mg FloatKind.f32.format (p * FloatKind.f32.format.binade + j + 1) = ((j : Rat) + 1) * pw (-149 + p) := by
    rw [Nat.add_assoc, mg_at _ p (j + 1) (by omega) (by omega), Rat.natCast_add]; rfl
  have hpp : p ≤ 300 := by
    have h := ht
    rw [hB] at h
    omega
  -- exact steps
  have Xx : Ex .f32 x (ev .f32 x) := ⟨hx, lx, rfl⟩
  have Xy : Ex .f32 y (ev .f32 y) := ⟨hy, ly, rfl⟩
  have Wx := widen_ex Xx
  have Wy := widen_ex Xy
  have q1 : pw (-149 + p) = 2 * pw (-150 + p) := by rw [← pw_succ]; congr 1; omega
  have q2 : pw (-150 + p) = 2 * pw (-151 + p) := by rw [← pw_succ]; congr 1; omega
  have c2 : ∀ n : Nat, ((2 * n + 1 : Nat) : Rat) = 2 * (n : Rat) + 1 := fun n => by rw [Rat.natCast_add, Rat.natCast_mul]; rfl
  have c4 : ∀ n : Nat, ((4 * n + 1 : Nat) : Rat) = 4 * (n : Rat) + 1 := fun n => by rw [Rat.natCast_add, Rat.natCast_mul]; rfl
  have c43 : ∀ n : Nat, ((4 * n + 3 : Nat) : Rat) = 4 * (n : Rat) + 3 := fun n => by rw [Rat.natCast_add, Rat.natCast_mul]; rfl
  have S1 : ev .f32 x + ev .f32 y = sgd s (((2 * j + 1 : Nat) : Rat) * pw (-149 + p)) := by
    rw [vx, vy, c2]
    cases s <;> simp only [sgd, cond_true, cond_false] <;> rw [m0, m1] <;> grind
  have A1 := Wx.add Wy (by rw [S1]; exact rep64_pw (by omega) (by omega) (by omega))
  have S2 : (ev .f32 x + ev .f32 y) / 2 = sgd s (((2 * j + 1 : Nat) : Rat) * pw (-150 + p)) := by
    rw [S1, q1]
    cases s <;> simp only [sgd, cond_true, cond_false] <;> grind
  have A2 := A1.div ex_two (by decide) (by rw [S2]; exact rep64_pw (by omega) (by omega) (by omega))
  rw [← e1] at A2
  have S3 : ev .f32 x + (ev .f32 x + ev .f32 y) / 2 = sgd s (((bif s then 4 * j + 3 else 4 * j + 1 : Nat) : Rat) * pw (-150 + p)) := by
    rw [S2, vx, c2]
    cases s <;> simp only [sgd, cond_true, cond_false] <;> first | rw [m0, c4, q1] | rw [m1, c43, q1]
    all_goals grind
  have S4 : ev .f32 y + (ev .f32 x + ev .f32 y) / 2 = sgd s (((bif s then 4 * j + 1 else 4 * j + 3 : Nat) : Rat) * pw (-150 + p)) := by
    rw [S2, vy, c2]
    cases s <;> simp only [sgd, cond_true, cond_false] <;> first | rw [m0, c4, q1] | rw [m1, c43, q1]
    all_goals grind
  have A3 := Wx.add A2 (by rw [S3]; exact rep64_pw (by cases s <;> simp only [cond_true, cond_false] <;> omega) (by omega) (by omega))
  have A4 := Wy.add A2 (by rw [S4]; exact rep64_pw (by cases s <;> simp only [cond_true, cond_false] <;> omega) (by omega) (by omega))
  have S5 : (ev .f32 x + (ev .f32 x + ev .f32 y) / 2) / 2 = sgd s (((bif s then 4 * j + 3 else 4 * j + 1 : Nat) : Rat) * pw (-151 + p)) := by
    rw [S3, q2]
    cases s <;> simp only [sgd, cond_true, cond_false] <;> grind
  have S6 : (ev .f32 y + (ev .f32 x + ev .f32 y) / 2) / 2 = sgd s (((bif s then 4 * j + 1 else 4 * j + 3 : Nat) : Rat) * pw (-151 + p)) := by
    rw [S4, q2]
    cases s <;> simp only [sgd, cond_true, cond_false] <;> grind
  have A5 := A3.div ex_two (by decide) (by rw [S5]; exact rep64_pw (by cases s <;> simp only [cond_true, cond_false] <;> omega) (by omega) (by omega))
  have A6 := A4.div ex_two (by decide) (by rw [S6]; exact rep64_pw (by cases s <;> simp only [cond_true, cond_false] <;> omega) (by omega) (by omega))
  rw [← e2] at A5
  rw [← e3] at A6
  -- rounded
  have N1 := narrow_rnd A2
  have N2 := narrow_rnd A5
  have N3 := narrow_rnd A6
  have hu := pw_pos (-151 + p)
  have hj : (0 : Rat) ≤ (j : Rat) := Rat.natCast_nonneg
  have hju := Rat.mul_nonneg hj (Rat.le_of_lt hu)
  have R1 : ev .f32 (narrow mid) = sgd s (mg FloatKind.f32.format (p * FloatKind.f32.format.binade + j + (p * FloatKind.f32.format.binade + j) % 2)) := by
    refine Rnd.tie (k := .f32) ?_ (by omega)
    have : sgd s ((mg FloatKind.f32.format (p * FloatKind.f32.format.binade + j) + mg FloatKind.f32.format (p * FloatKind.f32.format.binade + j + 1)) / 2) = (ev .f32 x + ev .f32 y) / 2 := by
      rw [S2, m0, m1, c2, q1]
      cases s <;> simp only [sgd, cond_true, cond_false] <;> grind
    rw [this]; exact N1
  have lowF : ∀ {b}, Rnd .f32 (sgd s (((4 * j + 1 : Nat) : Rat) * pw (-151 + p))) b → ev .f32 b = sgd s (mg FloatKind.f32.format (p * FloatKind.f32.format.binade + j)) := by
    intro b hb
    refine hb.lower (by omega) ?_ ?_ ?_
    · rw [c4]; grind
    · rw [m0, c4]; grind
    · rw [m0, m1, c4]; grind
  have upF : ∀ {b}, Rnd .f32 (sgd s (((4 * j + 3 : Nat) : Rat) * pw (-151 + p))) b → ev .f32 b = sgd s (mg FloatKind.f32.format (p * FloatKind.f32.format.binade + j + 1)) := by
    intro b hb
    refine hb.upper (by omega) ?_ ?_ ?_
    · rw [c43]; grind
    · rw [m1, c43]; grind
    · rw [m0, m1, c43]; grind
  have R2 : ev .f32 (narrow low) = ev .f32 x := by
    rw [S5] at N2
    rw [vx]
    cases s
    · exact lowF N2
    · exact upF N2
  have R3 : ev .f32 (narrow high) = ev .f32 y := by
    rw [S6] at N3
    rw [vy]
    cases s
    · exact upF N3
    · exact lowF N3
  have par : x % 2 = (bif s then p * FloatKind.f32.format.binade + j + 1 else p * FloatKind.f32.format.binade + j) % 2 := par_rung px lx
  have R1' : ev .f32 (narrow mid) = ev .f32 (if x % 2 = 1 then y else x) := by
    rw [R1, par]
    cases s
    · simp only [cond_false] at vx vy ⊢
      by_cases h : (p * FloatKind.f32.format.binade + j) % 2 = 1
      · rw [if_pos h, h, vy]
      · rw [if_neg h, show (p * FloatKind.f32.format.binade + j) % 2 = 0 by omega, Nat.add_zero, vx]
    · simp only [cond_true] at vx vy ⊢
      by_cases h : (p * FloatKind.f32.format.binade + j) % 2 = 1
      · rw [if_neg (by omega), h, vx]
      · rw [if_pos (by omega), show (p * FloatKind.f32.format.binade + j) % 2 = 0 by omega, Nat.add_zero, vy]
  have fe : fin .f32 (if x % 2 = 1 then y else x) = true := by
    by_cases h : x % 2 = 1
    · rw [if_pos h]; exact hy
    · rw [if_neg h]; exact hx
  refine ⟨⟨ovf_false A2 (fin_of_ev N1.nan fe R1'), ovf_false A5 (fin_of_ev N2.nan hx R2), ovf_false A6 (fin_of_ev N3.nan hy R3)⟩, ⟨?_, ?_⟩, ?_⟩
  · rw [feq_ev N2.nan (fin_nan hx), decide_eq_true R2]
  · rw [feq_ev N3.nan (fin_nan hy), decide_eq_true R3]
  · rw [feq_ev N1.nan (fin_nan fe), decide_eq_true R1']

end Fl
end Go.Ev

/- Floats as rational numbers: square roots. -/
set_option linter.unusedVariables false
set_option linter.unusedSimpArgs false
namespace Go.Ev
open Ieee

theorem sq_le {a b : Rat} (ha : 0 ≤ a) (h : a ≤ b) : a * a ≤ b * b := by
  have h1 := Rat.mul_le_mul_of_nonneg_left h ha
  have h2 := Rat.mul_le_mul_of_nonneg_right h (show 0 ≤ b by grind)
  grind
theorem sq_lt {a b : Rat} (ha : 0 ≤ a) (h : a < b) : a * a < b * b := by
  have h1 := Rat.mul_le_mul_of_nonneg_left (Rat.le_of_lt h) ha
  have h2 := Rat.mul_lt_mul_of_pos_right h (show 0 < b by grind)
  grind
theorem le_of_sq {a b : Rat} (hb : 0 ≤ b) (h : a * a ≤ b * b) : a ≤ b := by
  refine Rat.not_lt.1 fun c => ?_
  have := sq_lt hb c
  grind
theorem lt_of_sq {a b : Rat} (hb : 0 ≤ b) (h : a * a < b * b) : a < b := by
  refine Rat.not_le.1 fun c => ?_
  have := sq_le hb c
  grind

namespace Fl
/-- A rung is nearest to a number's square root. -/
structure SNear (f : Format) (q : Rat) (r : Nat) : Prop where
  inf : r ≤ f.infRung
  lo : ∀ t, t ≤ f.infRung → mg f t * mg f t ≤ q → t ≤ r
  hi : ∀ t, q ≤ mg f t * mg f t → r ≤ t
  lt : ∀ t, t < f.infRung → 4 * q < (mg f t + mg f (t + 1)) * (mg f t + mg f (t + 1)) → r ≤ t
  gt : ∀ t, t < f.infRung → (mg f t + mg f (t + 1)) * (mg f t + mg f (t + 1)) < 4 * q → t + 1 ≤ r
  tie : ∀ t, t < f.infRung → 4 * q = (mg f t + mg f (t + 1)) * (mg f t + mg f (t + 1)) → r = t + t % 2
theorem SNear.of {f : Format} {x q : Rat} {r : Nat} (h : Near f x r) (hx : 0 ≤ x) (e : q = x * x) : SNear f q r := by
  have nn := mg_nonneg f
  subst e
  refine ⟨h.inf, fun t ht c => h.lo t ht (le_of_sq hx c), fun t c => h.hi t (le_of_sq (nn t) c), fun t ht c => h.lt t ht ?_, fun t ht c => h.gt t ht ?_, fun t ht c => h.tie t ht ?_⟩
  · have a1 := nn t
    have a2 := nn (t + 1)
    exact lt_of_sq (by grind) (by grind)
  · exact lt_of_sq (by grind) (by grind)
  · have a1 := nn t
    have a2 := nn (t + 1)
    exact Rat.le_antisymm (le_of_sq (by grind) (by grind)) (le_of_sq (by grind) (by grind))
theorem SNear.between {f : Format} {x q lo hi : Rat} {r : Nat} (h : Near f x r) (h0 : 0 ≤ lo) (h1 : ∀ t, mg f t ≤ lo ∨ hi ≤ mg f t) (h2 : ∀ t, mg f t + mg f (t + 1) ≤ 2 * lo ∨ 2 * hi ≤ mg f t + mg f (t + 1))
    (x1 : lo < x) (x2 : x < hi) (a1 : lo * lo < q) (a2 : q < hi * hi) : SNear f q r := by
  have nn := mg_nonneg f
  have hhi : 0 ≤ hi := by grind
  refine ⟨h.inf, fun t ht e => h.lo t ht ?_, fun t e => h.hi t ?_, fun t ht e => h.lt t ht ?_, fun t ht e => h.gt t ht ?_, fun t ht e => ?_⟩
  · rcases h1 t with g | g
    · grind
    · have := sq_le hhi g; grind
  · rcases h1 t with g | g
    · have := sq_le (nn t) g; grind
    · grind
  · have b1 := nn t
    have b2 := nn (t + 1)
    rcases h2 t with g | g
    · have := sq_le (by grind) g; grind
    · grind
  · rcases h2 t with g | g
    · grind
    · have := sq_le (show 0 ≤ 2 * hi by grind) g; grind
  · have b1 := nn t
    have b2 := nn (t + 1)
    rcases h2 t with g | g
    · have := sq_le (by grind) g; grind
    · have := sq_le (show 0 ≤ 2 * hi by grind) g; grind
theorem SNear.mono {f : Format} {a b : Rat} {r s : Nat} (h1 : SNear f a r) (h2 : SNear f b s) (h : a ≤ b) : r ≤ s := by
  have nn := mg_nonneg f
  refine Nat.le_of_not_lt fun hlt => ?_
  have i1 := h1.inf
  have x1 : b < mg f (s + 1) * mg f (s + 1) := Rat.not_le.1 fun hc => by have := h2.lo _ (by omega) hc; omega
  have x2 : mg f (r - 1) * mg f (r - 1) < a := Rat.not_le.1 fun hc => by have := h1.hi _ hc; omega
  have x3 : mg f (r - 1) < mg f (s + 1) := lt_of_sq (nn _) (by grind)
  have x4 := lt_of_mg f x3
  have e : r = s + 1 := by omega
  subst e
  have y1 : ¬ 4 * a < (mg f s + mg f (s + 1)) * (mg f s + mg f (s + 1)) := fun hc => by have := h1.lt s (by omega) hc; omega
  have y2 : ¬ (mg f s + mg f (s + 1)) * (mg f s + mg f (s + 1)) < 4 * b := fun hc => by have := h2.gt s (by omega) hc; omega
  have z1 := h1.tie s (by omega) (by grind)
  have z2 := h2.tie s (by omega) (by grind)
  omega

theorem rootFrom_spec (n : Nat) : ∀ (todo root : Nat), root * root ≤ n → n < (root + 2 ^ todo) * (root + 2 ^ todo) →
    Datum.rootFrom n todo root * Datum.rootFrom n todo root ≤ n ∧ n < (Datum.rootFrom n todo root + 1) * (Datum.rootFrom n todo root + 1)
  | 0, root, h1, h2 => ⟨h1, h2⟩
  | todo + 1, root, h1, h2 => by
    unfold Datum.rootFrom
    simp only [Nat.shiftLeft_eq, Nat.one_mul]
    have e : 2 ^ (todo + 1) = 2 ^ todo + 2 ^ todo := by rw [Nat.pow_succ]; omega
    rw [e, ← Nat.add_assoc] at h2
    by_cases h : (root + 2 ^ todo) * (root + 2 ^ todo) ≤ n
    · rw [if_pos h]; exact rootFrom_spec n todo _ h h2
    · rw [if_neg h]; exact rootFrom_spec n todo _ h1 (by omega)
theorem root_spec (n : Nat) : Datum.rootFrom n (n.log2 / 2 + 1) 0 * Datum.rootFrom n (n.log2 / 2 + 1) 0 ≤ n ∧ n < (Datum.rootFrom n (n.log2 / 2 + 1) 0 + 1) * (Datum.rootFrom n (n.log2 / 2 + 1) 0 + 1) := by
  refine rootFrom_spec n _ 0 (Nat.zero_le _) ?_
  rw [Nat.zero_add, ← Nat.pow_add]
  have h1 : n < 2 ^ (n.log2 + 1) := Nat.lt_log2_self
  exact Nat.lt_of_lt_of_le h1 (Nat.pow_le_pow_right (by omega) (by omega))

theorem pw_sq (e : Int) : pw e * pw e = pw (2 * e) := by rw [← pw_add]; congr 1; omega

/-- The root of a positive word. -/
theorem fsqrt_pos {k : FloatKind} {x : Nat} (hx : fin k x = true) (h0 : 0 < ev k x) : ∃ r, fsqrt k x = k.format.word false r ∧ SNear k.format (ev k x) r := by
  obtain ⟨m, i, h1, h2⟩ := read_fin hx
  have hs : sg k x = false := by
    cases e : sg k x with
    | false => rfl
    | true =>
      unfold ev at h0
      rw [e] at h0
      have := mg_nonneg k.format (rung k x)
      simp only [sgd, cond_true] at h0
      grind
  have hev : ev k x = (m : Rat) * pw i := by
    unfold ev
    rw [hs, h2]; rfl
  have hm : m ≠ 0 := by
    intro e
    subst e
    rw [hev] at h0
    have : ((0 : Nat) : Rat) * pw i = 0 := Rat.zero_mul _
    grind
  rw [hs] at h1
  unfold fsqrt Format.sqrt
  rw [h1]
  simp only [Datum.root, if_neg hm, Bool.false_eq_true, if_false, Option.map_some, orNan, Format.write]
  generalize hd : k.format.fractionBits + 2 = d
  generalize hmore : 2 * d - m.log2 + ((i - ((2 * d - m.log2 : Nat) : Int)) % 2).toNat = more
  have hev2 : (i - more) % 2 = 0 := by omega
  obtain ⟨j, hj⟩ : ∃ j : Int, i - more = 2 * j := ⟨(i - more) / 2, by omega⟩
  have hj2 : (i - (more : Int)) / 2 = j := by omega
  rw [hj2, Nat.shiftLeft_eq]
  obtain ⟨w1, w2⟩ := root_spec (m * 2 ^ more)
  have hlog : 2 ^ (2 * d) ≤ m * 2 ^ more := by
    have a1 : 2 ^ m.log2 ≤ m := Nat.log2_self_le hm
    have a2 : 2 ^ (2 * d) ≤ 2 ^ (m.log2 + more) := Nat.pow_le_pow_right (by omega) (by omega)
    rw [Nat.pow_add] at a2
    exact Nat.le_trans a2 (Nat.mul_le_mul_right _ a1)
  -- the number in units
  have hq : ev k x = ((m * 2 ^ more : Nat) : Rat) * pw (2 * j) := by
    rw [hev, Rat.natCast_mul, ← pw_nat, Rat.mul_assoc, ← pw_add]
    congr 2
    omega
  generalize hnn : m * 2 ^ more = n at *
  generalize Datum.rootFrom n (n.log2 / 2 + 1) 0 = w at *
  have hwd : 2 ^ d ≤ w := by
    refine Nat.le_of_not_lt fun c => ?_
    have : (w + 1) * (w + 1) ≤ 2 ^ d * 2 ^ d := Nat.mul_le_mul c c
    rw [← Nat.pow_add, show d + d = 2 * d by omega] at this
    omega
  refine ⟨_, nearest_eq _ _ _ _, ?_⟩
  have hu := pw_pos (j - 1)
  have hsq : pw (2 * j) = (2 * pw (j - 1)) * (2 * pw (j - 1)) := by
    rw [← pw_succ, pw_sq]; congr 1; omega
  have c2 : ∀ a : Nat, ((2 * a : Nat) : Rat) = 2 * (a : Rat) := fun a => by rw [Rat.natCast_mul]; rfl
  have hw0 : (0 : Rat) ≤ (w : Rat) := Rat.natCast_nonneg
  have hwu := Rat.mul_nonneg hw0 (Rat.le_of_lt hu)
  by_cases hr : w * w = n
  · have hb : (w * w != n).toNat = 0 := by rw [hr, bne_self_eq_false]; rfl
    rw [hb, Nat.add_zero]
    refine SNear.of (rg_near (even_k k) (2 * w) (j - 1)) ?_ ?_
    · exact Rat.mul_nonneg Rat.natCast_nonneg (Rat.le_of_lt hu)
    · rw [hq, hsq, ← hr, Rat.natCast_mul, c2]
      grind
  · have hb : (w * w != n).toNat = 1 := by rw [bne_iff_ne.2 hr]; rfl
    rw [hb]
    have hS : 2 ^ (k.format.fractionBits + 2) ≤ 2 * w + 1 := by rw [hd]; omega
    obtain ⟨lo, hi, g0, g1, g2, t1, t2⟩ := sticky_gap (f := k.format) (S := 2 * w + 1) (g := j - 1) hS (by omega)
    have cS : ((2 * w + 1 : Nat) : Rat) = 2 * (w : Rat) + 1 := by rw [Rat.natCast_add, c2]; rfl
    rw [cS] at g1 g2
    have hlt : w * w < n := Nat.lt_of_le_of_ne w1 hr
    have n1 : (w : Rat) * (w : Rat) < (n : Rat) := by rw [← Rat.natCast_mul]; exact Rat.natCast_lt_natCast.2 hlt
    have n2 : (n : Rat) < ((w : Rat) + 1) * ((w : Rat) + 1) := by
      have := Rat.natCast_lt_natCast.2 w2
      rw [Rat.natCast_mul, Rat.natCast_add] at this
      exact this
    have p2 : 0 < pw (2 * j) := pw_pos _
    refine SNear.between (x := ((2 * w + 1 : Nat) : Rat) * pw (j - 1)) (rg_near (even_k k) (2 * w + 1) (j - 1)) g0 t1 t2 ?_ ?_ ?_ ?_
    · rw [cS]; grind
    · rw [cS]; grind
    · have a1 := sq_le g0 (show lo ≤ 2 * ((w : Rat) * pw (j - 1)) by grind)
      have a2 := Rat.mul_lt_mul_of_pos_right n1 p2
      rw [← hq, hsq] at a2
      grind
    · have a1 := sq_le (show (0 : Rat) ≤ 2 * (((w : Rat) + 1) * pw (j - 1)) by grind) (show 2 * (((w : Rat) + 1) * pw (j - 1)) ≤ hi by grind)
      have a2 := Rat.mul_lt_mul_of_pos_right n2 p2
      rw [← hq, hsq] at a2
      grind

/-- The root of a word that is not positive. -/
theorem fsqrt_neg {k : FloatKind} {x : Nat} (hx : fin k x = true) (h0 : ev k x < 0) : fsqrt k x = qnan k := by
  obtain ⟨m, i, h1, h2⟩ := read_fin hx
  have nn := mg_nonneg k.format (rung k x)
  have hs : sg k x = true := by
    cases e : sg k x with
    | true => rfl
    | false =>
      unfold ev at h0
      rw [e] at h0
      simp only [sgd, cond_false] at h0
      grind
  have hm : m ≠ 0 := by
    intro e
    subst e
    have : ((0 : Nat) : Rat) * pw i = 0 := Rat.zero_mul _
    unfold ev at h0
    rw [hs, ← h2, this] at h0
    exact absurd h0 (by decide)
  rw [hs] at h1
  unfold fsqrt Format.sqrt
  rw [h1]
  simp only [Datum.root, if_neg hm, if_true, Option.map_none, orNan]
theorem fsqrt_zero {k : FloatKind} {x : Nat} (hx : fin k x = true) (h0 : ev k x = 0) : fsqrt k x = k.format.word (sg k x) 0 := by
  obtain ⟨m, i, h1, h2⟩ := read_fin hx
  have nn := mg_nonneg k.format (rung k x)
  have hm : m = 0 := by
    have : (m : Rat) * pw i = 0 := by
      rw [h2]
      unfold ev at h0
      cases e : sg k x <;> rw [e] at h0 <;> simp only [sgd, cond_true, cond_false] at h0 <;> grind
    rcases Rat.mul_eq_zero.1 this with h | h
    · exact_mod_cast h
    · have := pw_pos i; grind
  subst hm
  unfold fsqrt Format.sqrt
  rw [h1]
  simp only [Datum.root, if_true, Option.map_some, orNan, Format.write, Format.nearest]
/-! ### the root of a 32-bit number, narrowed -/
def rootN (x : Nat) : Nat := narrow (fsqrt .f64 (widen x))
theorem pw64_rung : ∃ t, t < infOf .f64 ∧ mg FloatKind.f64.format t = pw 64 := by
  obtain ⟨t, ht⟩ := rep_rung FloatKind.f64.format 1138 1 (by decide)
  have e : ((1 : Nat) : Rat) * pw (FloatKind.f64.format.leastPlace + (1138 : Nat)) = pw 64 := Rat.one_mul _
  rw [e] at ht
  refine ⟨t, lt_of_mg FloatKind.f64.format ?_, ht⟩
  rw [ht, mg_inf]
  show pw 64 < pw 1024
  have h1 := pw_succ 64
  have h2 := pw_pos 64
  have h3 : pw (64 + 1) ≤ pw 1024 := pw_le (by omega)
  grind
theorem root_fin {x : Nat} {q : Rat} (h : Ex .f32 x q) (h0 : 0 < q) : ∃ r, Ex .f64 (fsqrt .f64 (widen x)) (mg FloatKind.f64.format r) ∧ fsqrt .f64 (widen x) = FloatKind.f64.format.word false r ∧ SNear FloatKind.f64.format q r ∧ Rnd .f32 (mg FloatKind.f64.format r) (rootN x) ∧ ovf (fsqrt .f64 (widen x)) = false ∧ fin .f32 (rootN x) = true := by
  have W := widen_ex h
  obtain ⟨r, h1, h2⟩ := fsqrt_pos W.f (by rw [W.e]; exact h0)
  rw [W.e] at h2
  obtain ⟨t, t1, t2⟩ := pw64_rung
  have hq : q < pw 128 := by
    have a := mg_lt FloatKind.f32.format (fin_iff.1 h.f)
    have : mg FloatKind.f32.format (infOf .f32) = pw 128 := mg_inf .f32
    rw [this] at a
    have e := h.e
    unfold ev at e
    have nn := mg_nonneg FloatKind.f32.format (rung .f32 x)
    cases s : sg .f32 x <;> rw [s] at e <;> simp only [sgd, cond_true, cond_false] at e <;> grind
  have hr : r ≤ t := h2.hi t (by rw [t2, pw_sq]; show q ≤ pw 128; grind)
  have w := word_sg (k := .f64) (s := false) (r := r) (by omega)
  have E : Ex .f64 (fsqrt .f64 (widen x)) (mg FloatKind.f64.format r) := by
    rw [h1]
    refine ⟨fin_iff.2 (by rw [w.2.1]; omega), w.2.2, ?_⟩
    rw [ev_word (by omega)]; rfl
  have N := narrow_rnd E
  have hf : fin .f32 (rootN x) = true := by
    have r64 : Rep .f32 (pw 64) := by
      have := rep_nat (k := .f32) (n := 1) (e := 64) (by decide) (by decide) (by
        rw [mg_inf]
        show ((1 : Nat) : Rat) * pw 64 < pw 128
        have h1 := pw_succ 64
        have h2 := pw_pos 64
        have h3 : pw (64 + 1) ≤ pw 128 := pw_le (by omega)
        have : ((1 : Nat) : Rat) = 1 := rfl
        grind)
      have e : ((1 : Nat) : Rat) * pw 64 = pw 64 := Rat.one_mul _
      rwa [e] at this
    obtain ⟨w64, f1, f2, f3⟩ := r64
    have le : ev .f32 (rootN x) ≤ ev .f32 w64 := N.le (fin_nan f1) f2 (by rw [f3, ← t2]; exact mg_le _ hr)
    have ge : ev .f32 0 ≤ ev .f32 (rootN x) := N.ge (by decide) (by decide) (by rw [(ev_zero (by decide)).2 (.inl rfl)]; exact mg_nonneg _ _)
    have p1 := ev_le_iff.1 le
    have p2 := ev_le_iff.1 ge
    have p3 := (fin_pos (fin_nan f1)).1 f1
    have p4 : pos .f32 0 = 0 := by decide +kernel
    exact (fin_pos N.nan).2 (by show _ < pos .f32 (rootN x) ∧ pos .f32 (rootN x) < _; omega)
  exact ⟨r, E, h1, h2, N, ovf_false E hf, hf⟩
theorem ovf_qnan : ovf (qnan .f64) = false := by decide +kernel
/-- A root is never too great. -/
theorem root_ovf {x : Nat} (hl : x < 2 * signOf .f32) (hc : canon .f32 x = x) : ovf (fsqrt .f64 (widen x)) = false := by
  cases hn : nan .f32 x with
  | true =>
    rw [canon_nan hn] at hc
    subst hc
    decide +kernel
  | false =>
    by_cases hf : fin .f32 x = true
    · have X : Ex .f32 x (ev .f32 x) := ⟨hf, hl, rfl⟩
      have W := widen_ex X
      by_cases h1 : 0 < ev .f32 x
      · exact (root_fin X h1).choose_spec.2.2.2.2.1
      · by_cases h2 : ev .f32 x < 0
        · rw [fsqrt_neg W.f (by rw [W.e]; exact h2)]; exact ovf_qnan
        · have h3 : ev .f32 x = 0 := by grind
          rw [fsqrt_zero W.f (by rw [W.e]; exact h3)]
          cases sg .f64 (widen x) <;> decide +kernel
    · have hr := nan_false.1 hn
      have hri : rung .f32 x = infOf .f32 := by
        have : ¬ rung .f32 x < infOf .f32 := fun c => hf (fin_iff.2 c)
        omega
      rcases x_cases hl with ⟨_, b⟩ | ⟨_, b⟩
      · rw [hri] at b; subst b; decide +kernel
      · rw [hri] at b; subst b; decide +kernel

end Fl
end Go.Ev

/- Floats as rational numbers: numbers of few binary digits, which are exact. -/
set_option linter.unusedVariables false
set_option linter.unusedSimpArgs false
namespace Go.Ev
open Ieee

namespace Fl
/-- A number with at most s binary digits behind the point, at most b of their units. -/
def Gr (s b : Nat) (q : Rat) : Prop := ∃ n : Int, q * ((2 ^ s : Nat) : Rat) = n ∧ n.natAbs ≤ b
theorem Gr.le {s b c : Nat} {q : Rat} (h : Gr s b q) (hb : b ≤ c) : Gr s c q := by
  obtain ⟨n, h1, h2⟩ := h
  exact ⟨n, h1, by omega⟩
theorem Gr.up {s b : Nat} {q : Rat} (h : Gr s b q) (t : Nat) : Gr (s + t) (b * 2 ^ t) q := by
  obtain ⟨n, h1, h2⟩ := h
  refine ⟨n * ((2 ^ t : Nat) : Int), ?_, ?_⟩
  · rw [Nat.pow_add, Rat.natCast_mul, Rat.intCast_mul, ← h1, Rat.mul_assoc]; rfl
  · rw [Int.natAbs_mul, Int.natAbs_natCast]
    exact Nat.mul_le_mul_right _ h2
theorem Gr.add {s b c : Nat} {p q : Rat} (h : Gr s b p) (h' : Gr s c q) : Gr s (b + c) (p + q) := by
  obtain ⟨n, h1, h2⟩ := h
  obtain ⟨m, h3, h4⟩ := h'
  exact ⟨n + m, by rw [Rat.add_mul, h1, h3, Rat.intCast_add], by omega⟩
theorem Gr.sub {s b c : Nat} {p q : Rat} (h : Gr s b p) (h' : Gr s c q) : Gr s (b + c) (p - q) := by
  obtain ⟨n, h1, h2⟩ := h
  obtain ⟨m, h3, h4⟩ := h'
  exact ⟨n - m, by rw [Rat.intCast_sub, ← h1, ← h3]; grind, by omega⟩
theorem Gr.neg {s b : Nat} {p : Rat} (h : Gr s b p) : Gr s b (-p) := by
  obtain ⟨n, h1, h2⟩ := h
  exact ⟨-n, by rw [Rat.intCast_neg, ← h1, Rat.neg_mul], by omega⟩
theorem Gr.mul {s t b c : Nat} {p q : Rat} (h : Gr s b p) (h' : Gr t c q) : Gr (s + t) (b * c) (p * q) := by
  obtain ⟨n, h1, h2⟩ := h
  obtain ⟨m, h3, h4⟩ := h'
  refine ⟨n * m, ?_, ?_⟩
  · rw [Nat.pow_add, Rat.natCast_mul, Rat.intCast_mul, ← h1, ← h3]; grind
  · rw [Int.natAbs_mul]
    exact Nat.mul_le_mul h2 h4
theorem Gr.int (n : Int) {b : Nat} (h : n.natAbs ≤ b) : Gr 0 b (n : Rat) := ⟨n, by rw [Nat.pow_zero]; exact Rat.mul_one _, h⟩
theorem Gr.zero (s b : Nat) : Gr s b 0 := ⟨0, by rw [Rat.zero_mul]; rfl, by omega⟩
theorem Gr.rep32 {s b : Nat} {q : Rat} (h : Gr s b q) (hb : b ≤ 16777216) (hs : s ≤ 149) : Rep .f32 q := by
  obtain ⟨n, h1, h2⟩ := h
  exact Fl.rep32 n s h1 (by omega) hs
/-- A 32-bit word that stands for such a number. -/
structure Q (s b : Nat) (x : Nat) (q : Rat) : Prop where
  x : Ex .f32 x q
  g : Gr s b q
section
variable {s t b c x y : Nat} {p q : Rat}
theorem Q.le (h : Q s b x q) (hb : b ≤ c) : Q s c x q := ⟨h.x, h.g.le hb⟩
theorem Q.up (h : Q s b x q) (t : Nat) : Q (s + t) (b * 2 ^ t) x q := ⟨h.x, h.g.up t⟩
theorem Q.as (h : Q s b x p) (e : p = q) : Q s b x q := e ▸ h
theorem Q.add (h : Q s b x p) (h' : Q s c y q) (hb : b + c ≤ 16777216) (hs : s ≤ 149) : Q s (b + c) (fadd .f32 x y) (p + q) :=
  ⟨h.x.add h'.x ((h.g.add h'.g).rep32 hb hs), h.g.add h'.g⟩
theorem Q.sub (h : Q s b x p) (h' : Q s c y q) (hb : b + c ≤ 16777216) (hs : s ≤ 149) : Q s (b + c) (fsub .f32 x y) (p - q) :=
  ⟨h.x.sub h'.x ((h.g.sub h'.g).rep32 hb hs), h.g.sub h'.g⟩
theorem Q.mul (h : Q s b x p) (h' : Q t c y q) (hb : b * c ≤ 16777216) (hs : s + t ≤ 149) : Q (s + t) (b * c) (fmul .f32 x y) (p * q) :=
  ⟨h.x.mul h'.x ((h.g.mul h'.g).rep32 hb hs), h.g.mul h'.g⟩
theorem Q.neg (h : Q s b x p) : Q s b (fneg .f32 x) (-p) := ⟨h.x.neg, h.g.neg⟩
end

/-- What a word of a known magnitude stands for. -/
theorem ev_lit {k : FloatKind} {x : Nat} (s : Bool) (p j : Nat) (hj : j ≤ 2 * k.format.binade) (h : p = 0 ∨ k.format.binade ≤ j) (hx : x = k.format.word s (p * k.format.binade + j)) (hr : p * k.format.binade + j ≤ infOf k) :
    ev k x = sgd s ((j : Rat) * pw (k.format.leastPlace + p)) := by
  rw [hx, ev_word hr, mg_at k.format p j hj h]
theorem q_zero : Q 0 0 0 0 := ⟨⟨by decide, by decide, (ev_zero (by decide)).2 (.inl rfl)⟩, Gr.zero 0 0⟩
end Fl
end Go.Ev

/- Floats as rational numbers: sums of lists. -/
set_option linter.unusedVariables false
set_option linter.unusedSimpArgs false
namespace Go.Ev
open Ieee

namespace Fl
def rsum : List Rat → Rat
  | [] => 0
  | q :: qs => q + rsum qs
theorem rsum_append (a b : List Rat) : rsum (a ++ b) = rsum a + rsum b := by
  induction a with
  | nil => simp [rsum, Rat.zero_add]
  | cons q qs ih => simp only [List.cons_append, rsum, ih]; grind
/-- Words that stand for the numbers of a list. -/
inductive QL (s b : Nat) : List Nat → List Rat → Prop
  | nil : QL s b [] []
  | cons {x : Nat} {q : Rat} {xs : List Nat} {qs : List Rat} : Q s b x q → QL s b xs qs → QL s b (x :: xs) (q :: qs)
theorem QL.length {s b : Nat} {xs : List Nat} {qs : List Rat} (h : QL s b xs qs) : xs.length = qs.length := by
  induction h with
  | nil => rfl
  | cons _ _ ih => simp [ih]
theorem QL.take {s b : Nat} {xs : List Nat} {qs : List Rat} (h : QL s b xs qs) (n : Nat) : QL s b (xs.take n) (qs.take n) := by
  induction h generalizing n with
  | nil => simp; exact .nil
  | cons h1 _ ih =>
    cases n with
    | zero => exact .nil
    | succ n => exact .cons h1 (ih n)
theorem QL.drop {s b : Nat} {xs : List Nat} {qs : List Rat} (h : QL s b xs qs) (n : Nat) : QL s b (xs.drop n) (qs.drop n) := by
  induction h generalizing n with
  | nil => simp; exact .nil
  | cons h1 h2 ih =>
    cases n with
    | zero => exact .cons h1 h2
    | succ n => exact ih n
theorem QL.snoc {s b : Nat} {xs : List Nat} {qs : List Rat} {x : Nat} {q : Rat} (h : QL s b xs qs) (h' : Q s b x q) : QL s b (xs ++ [x]) (qs ++ [q]) := by
  induction h with
  | nil => exact .cons h' .nil
  | cons h1 _ ih => exact .cons h1 ih

def fsumL (xs : List Nat) : Nat := xs.foldl (fun a x => fadd .f32 a x) 0
theorem QL.foldl {s b : Nat} {xs : List Nat} {qs : List Rat} (h : QL s b xs qs) : ∀ {c a : Nat} {p : Rat}, Q s c a p → c + b * xs.length ≤ 16777216 → s ≤ 149 → Q s (c + b * xs.length) (xs.foldl (fun a x => fadd .f32 a x) a) (p + rsum qs) := by
  induction h with
  | nil =>
    intro c a p ha _ _
    exact (ha.le (by omega)).as (Rat.add_zero p).symm
  | @cons x q xs qs h1 _ ih =>
    intro c a p ha hb hs
    have e : b * (x :: xs).length = b + b * xs.length := by rw [List.length_cons, Nat.mul_add]; omega
    rw [e] at hb ⊢
    have := ih (ha.add h1 (by omega) hs) (by omega) hs
    refine (this.le (by omega)).as ?_
    simp only [rsum]
    grind
theorem QL.sum {b : Nat} {xs : List Nat} {qs : List Rat} (h : QL 0 b xs qs) (hb : b * xs.length ≤ 16777216) : Q 0 (b * xs.length) (fsumL xs) (rsum qs) :=
  ((h.foldl (q_zero) (by omega) (by omega)).le (by omega)).as (Rat.zero_add _)

/-- The sum of the sums of both halves. -/
def fpairsF : Nat → List Nat → Nat
  | 0, _ => 0
  | _ + 1, [] => 0
  | _ + 1, [x] => x
  | n + 1, x :: y :: xs => fadd .f32 (fpairsF n ((x :: y :: xs).take (((x :: y :: xs).length + 1) / 2))) (fpairsF n ((x :: y :: xs).drop (((x :: y :: xs).length + 1) / 2)))
def fpairsL (xs : List Nat) : Nat := fpairsF xs.length xs
theorem fpairsF_eq : ∀ (n m : Nat) (xs : List Nat), xs.length ≤ n → xs.length ≤ m → fpairsF n xs = fpairsF m xs := by
  intro n
  induction n with
  | zero =>
    intro m xs h1 h2
    have : xs = [] := List.length_eq_zero_iff.1 (by omega)
    subst this
    cases m <;> rfl
  | succ n ih =>
    intro m xs h1 h2
    match xs, m with
    | [], 0 => rfl
    | [], m + 1 => rfl
    | [x], 0 => simp at h2
    | [x], m + 1 => rfl
    | x :: y :: xs, 0 => simp at h2
    | x :: y :: xs, m + 1 =>
      simp only [fpairsF]
      have hl : (x :: y :: xs).length = xs.length + 2 := rfl
      rw [ih m _ (by rw [List.length_take]; omega) (by rw [List.length_take]; omega), ih m _ (by rw [List.length_drop]; omega) (by rw [List.length_drop]; omega)]
theorem fpairsL_two {xs : List Nat} (h : 2 ≤ xs.length) : fpairsL xs = fadd .f32 (fpairsL (xs.take ((xs.length + 1) / 2))) (fpairsL (xs.drop ((xs.length + 1) / 2))) := by
  match xs, h with
  | x :: y :: xs, _ =>
    have hl : (x :: y :: xs).length = xs.length + 2 := rfl
    have e : fpairsL (x :: y :: xs) = fadd .f32 (fpairsF (xs.length + 1) ((x :: y :: xs).take (((x :: y :: xs).length + 1) / 2))) (fpairsF (xs.length + 1) ((x :: y :: xs).drop (((x :: y :: xs).length + 1) / 2))) := rfl
    rw [e]
    unfold fpairsL
    rw [fpairsF_eq (xs.length + 1) _ _ (by rw [List.length_take]; omega) (Nat.le_refl _), fpairsF_eq (xs.length + 1) _ _ (by rw [List.length_drop]; omega) (Nat.le_refl _)]
theorem QL.pairs {b : Nat} : ∀ (n : Nat) {xs : List Nat} {qs : List Rat}, xs.length ≤ n → QL 0 b xs qs → b * xs.length ≤ 16777216 → Q 0 (b * xs.length) (fpairsL xs) (rsum qs) := by
  intro n
  induction n with
  | zero =>
    intro xs qs h1 h _
    have : xs = [] := List.length_eq_zero_iff.1 (by omega)
    subst this
    cases h
    exact q_zero.le (by omega)
  | succ n ih =>
    intro xs qs h1 h hb
    by_cases h2 : 2 ≤ xs.length
    · rw [fpairsL_two h2]
      have ht : (xs.take ((xs.length + 1) / 2)).length = (xs.length + 1) / 2 := by rw [List.length_take]; omega
      have hd : (xs.drop ((xs.length + 1) / 2)).length = xs.length - (xs.length + 1) / 2 := List.length_drop
      have hsum : b * ((xs.length + 1) / 2) + b * (xs.length - (xs.length + 1) / 2) = b * xs.length := by
        rw [← Nat.mul_add]; congr 1; omega
      have A := ih (xs := xs.take ((xs.length + 1) / 2)) (by omega) (h.take _) (by rw [ht]; omega)
      have B := ih (xs := xs.drop ((xs.length + 1) / 2)) (by omega) (h.drop _) (by rw [hd]; omega)
      rw [ht] at A
      rw [hd] at B
      refine ((A.add B (by omega) (by omega)).le (by omega)).as ?_
      rw [← rsum_append, List.take_append_drop]
    · match h with
      | .nil => exact q_zero.le (by omega)
      | .cons h1 .nil => exact (h1.le (by simp)).as (by simp [rsum, Rat.add_zero])
      | .cons _ (.cons _ _) => simp at h2

end Fl
end Go.Ev

/- Functions of 64-bit floats that Go's library leaves without a body: their bits, and wholes. -/
set_option linter.unusedVariables false
set_option linter.unusedSimpArgs false
namespace Go.Ev

/-- math.Float64bits: of a not-a-number nothing is known. -/
def sF64bits : Sm := fun args hs K =>
  match args with
  | [.float .f64 x] => cond (nan .f64 x) (K .undef hs) (K (.int .u64 x) hs)
  | _ => False

theorem ok_F64bits {P : Program} {k : FuncId} {fn : Func} (hf : P.funcs[k]? = some fn) (hname : (fn.name == "runtime.NumGoroutine") = false)
    (hb : fn.body.isNone = true) (hn : Extern.findNext fn = none) (he : Extern.find fn = some Extern.MathFloatBits.float64bits) : FnOk P k sF64bits := by
  refine fnOk_ext hf hname hb hn he ?_
  intro args K h
  unfold sF64bits at h
  split at h
  · rename_i x
    cases hx : nan .f64 x with
    | true =>
      simp only [hx, cond_true] at h
      refine ⟨.undef, h, fun K' h' => by simp only [sF64bits, hx, cond_true]; exact h', ?_⟩
      intro w M cargs hv
      cases hv with
      | cons a b =>
        cases b
        cases a with
        | float _ _ b' h1 h2 => exact ⟨_, w, rfl, Drawn.refl w, .undef _⟩
    | false =>
      simp only [hx, cond_false] at h
      refine ⟨.int .u64 x, h, fun K' h' => by simp only [sF64bits, hx, cond_false]; exact h', ?_⟩
      intro w M cargs hv
      cases hv with
      | cons a b =>
        cases b
        cases a with
        | float _ _ b' h1 h2 =>
          have hb' : nan .f64 b' = false := by rw [h2, nan_canon] at hx; exact hx
          have e : x = b' := by rw [h2, canon_not hb']
          subst e
          refine ⟨.int .u64 x, w, rfl, Drawn.refl w, .int _ _ ?_⟩
          have e1 : IntKind.u64.min = 0 := rfl
          have e2 : IntKind.u64.max = 18446744073709551615 := rfl
          have e3 : 2 * signOf .f64 = 18446744073709551616 := rfl
          omega
  · exact h.elim

/-- math.Float64frombits. -/
def sF64from : Sm := fun args hs K =>
  match args with
  | [.int .u64 n] => K (.float .f64 (canon .f64 n.toNat)) hs
  | _ => False

theorem ok_F64from {P : Program} {k : FuncId} {fn : Func} (hf : P.funcs[k]? = some fn) (hname : (fn.name == "runtime.NumGoroutine") = false)
    (hb : fn.body.isNone = true) (hn : Extern.findNext fn = none) (he : Extern.find fn = some Extern.MathFloatBits.float64frombits) : FnOk P k sF64from := by
  refine fnOk_ext hf hname hb hn he ?_
  intro args K h
  unfold sF64from at h
  split at h
  · rename_i n
    refine ⟨_, h, fun K' h' => h', ?_⟩
    intro w M cargs hv
    cases hv with
    | cons a b =>
      cases b
      cases a with
      | int _ _ hr =>
        have e1 : IntKind.u64.min = 0 := rfl
        have e2 : IntKind.u64.max = 18446744073709551615 := rfl
        have e3 : 2 * signOf .f64 = 18446744073709551616 := rfl
        exact ⟨_, w, rfl, Drawn.refl w, .float _ _ n.toNat (by omega) rfl⟩
  · exact h.elim

/-- A float made whole. -/
def fwhole (way : Ieee.Toward) (x : Nat) : Nat := bif nan .f64 x then qnan .f64 else FloatKind.f64.encode ((FloatKind.f64.decode x).integral way)
def sWhole (way : Ieee.Toward) : Sm := fun args hs K =>
  match args with
  | [.float .f64 x] => cond (nan .f64 x) False (K (.float .f64 (fwhole way x)) hs)
  | _ => False

theorem ok_whole {P : Program} {k : FuncId} {fn : Func} (name : String) (way : Ieee.Toward) (hf : P.funcs[k]? = some fn) (hname : (fn.name == "runtime.NumGoroutine") = false)
    (hb : fn.body.isNone = true) (hn : Extern.findNext fn = none) (he : Extern.find fn = some (Extern.MathFloor.toIntegral name way)) : FnOk P k (sWhole way) := by
  refine fnOk_ext hf hname hb hn he ?_
  intro args K h
  unfold sWhole at h
  split at h
  · rename_i x
    cases hx : nan .f64 x with
    | true => simp only [hx, cond_true] at h
    | false =>
    simp only [hx, cond_false] at h
    refine ⟨_, h, fun K' h' => by simp only [sWhole, hx, cond_false]; exact h', ?_⟩
    intro w M cargs hv
    cases hv with
    | cons a b =>
      cases b
      cases a with
      | float _ _ b' h1 h2 =>
        have hb' : nan .f64 b' = false := by rw [h2, nan_canon] at hx; exact hx
        have e : x = b' := by rw [h2, canon_not hb']
        subst e
        have hd := read_not_nan hx
        have hpl : plainD (((FloatKind.f64.decode x).integral way)) = true := by
          unfold FloatKind.decode
          cases e : FloatKind.f64.format.read x with
          | nan s t => exact absurd e (hd s t)
          | infinity s => rfl
          | number s m p => rfl
        refine ⟨.float .f64 (FloatKind.f64.encode ((FloatKind.f64.decode x).integral way)), w, ?_, Drawn.refl w, ?_⟩
        · have hT : ∀ d, FloatKind.f64.decode x = d → plainD d = true → (Extern.MathFloor.toIntegral name way #[.float .f64 x]) = pure (.float .f64 (FloatKind.f64.encode (d.integral way))) := by
            intro d e hp
            have h0 : (Extern.MathFloor.toIntegral name way #[.float .f64 x]) = (match FloatKind.f64.decode x with
              | .nan s t => (if FloatKind.f64.format.quiet t = t then pure (.float .f64 x) else do
                let kept ← choose (.extern "math.Floor,Ceil,Trunc,RoundToEven.signallingNaN kept" 2)
                pure (.float .f64 (if kept == 1 then x else FloatKind.f64.encode (.nan s (FloatKind.f64.format.quiet t)))))
              | d => pure (.float .f64 (FloatKind.f64.encode (d.integral way)))) := rfl
            rw [h0, e]
            cases d with
            | nan s t => cases hp
            | infinity s => rfl
            | number s m p => rfl
          show (Extern.MathFloor.toIntegral name way #[.float .f64 x]).run P w = _
          rw [hT _ rfl (by
            unfold FloatKind.decode
            cases e : FloatKind.f64.format.read x with
            | nan s t => exact absurd e (hd s t)
            | infinity s => rfl
            | number s m p => rfl)]
          rfl
        · have hn' : nan .f64 (FloatKind.f64.encode ((FloatKind.f64.decode x).integral way)) = false := nan_write hpl
          refine .float _ _ _ ?_ ?_
          · have := FloatKind.f64.format.write_lt ((FloatKind.f64.decode x).integral way)
            rw [← width_eq]
            exact this
          · unfold fwhole
            rw [hx, cond_false, canon_not hn']
  · exact h.elim

end Go.Ev

/- Floats as rational numbers: wholes. -/
set_option linter.unusedVariables false
set_option linter.unusedSimpArgs false
namespace Go.Ev
open Ieee

namespace Fl
theorem div_gap (n d : Nat) : n / 2 ^ min d (n.log2 + 2) = n / 2 ^ d := by
  by_cases h : d ≤ n.log2 + 2
  · rw [Nat.min_eq_left h]
  · rw [Nat.min_eq_right (by omega)]
    have h1 : n < 2 ^ (n.log2 + 1) := Nat.lt_log2_self
    have h2 : 2 ^ (n.log2 + 1) ≤ 2 ^ (n.log2 + 2) := Nat.pow_le_pow_right (by omega) (by omega)
    have h3 : 2 ^ (n.log2 + 1) ≤ 2 ^ d := Nat.pow_le_pow_right (by omega) (by omega)
    rw [Nat.div_eq_of_lt (by omega), Nat.div_eq_of_lt (by omega)]
theorem cut_zero (s : Bool) (n d : Nat) : Toward.zero.cut s n d = n / 2 ^ d := by
  unfold Toward.cut
  simp only [Nat.shiftLeft_eq, Nat.one_mul, Bool.toNat_false, Nat.add_zero]
  exact div_gap n d
/-- A number in its places: what is whole of it. -/
theorem whole_part (m : Nat) (e : Int) : ((m <<< e.toNat / 2 ^ (-e).toNat : Nat) : Rat) ≤ (m : Rat) * pw e ∧ (m : Rat) * pw e < ((m <<< e.toNat / 2 ^ (-e).toNat : Nat) : Rat) + 1 := by
  have hx : (m : Rat) * pw e * ((2 ^ (-e).toNat : Nat) : Rat) = ((m <<< e.toNat : Nat) : Rat) := by
    rw [Nat.shiftLeft_eq, Rat.natCast_mul, ← pw_nat, ← pw_nat, Rat.mul_assoc, ← pw_add]
    congr 2
    omega
  have g0 : (0 : Rat) < ((2 ^ (-e).toNat : Nat) : Rat) := Rat.natCast_pos.2 (Nat.two_pow_pos _)
  have d1 := Nat.div_add_mod (m <<< e.toNat) (2 ^ (-e).toNat)
  have d2 := Nat.mod_lt (m <<< e.toNat) (Nat.two_pow_pos (-e).toNat)
  generalize m <<< e.toNat = n at *
  generalize 2 ^ (-e).toNat = g at *
  have d1 := congrArg (fun z : Nat => (z : Rat)) d1
  simp only [Rat.natCast_add, Rat.natCast_mul] at d1
  have d2 := Rat.natCast_lt_natCast.2 d2
  have d3 : (0 : Rat) ≤ ((n % g : Nat) : Rat) := Rat.natCast_nonneg
  constructor
  · refine Rat.le_of_mul_le_mul_right ?_ g0
    rw [hx]; grind
  · refine Rat.lt_of_mul_lt_mul_right ?_ (Rat.le_of_lt g0)
    rw [hx]; grind
end Fl
end Go.Ev

/- Floats as rational numbers: what a sine computes, where nothing is too great. -/
set_option linter.unusedVariables false
set_option linter.unusedSimpArgs false
set_option maxRecDepth 20000
namespace Go.Ev
open Ieee
namespace Fl
def sinP (u : Nat) : Nat → Nat
  | 0 => 4607182418800017408
  | n + 1 => fsub .f64 4607182418800017408 (fdiv .f64 (fmul .f64 u (sinP u n)) (FloatKind.f64.nearest (2 * (8 - (n : Int)) * (2 * (8 - (n : Int)) + 1))))
def sinO (f : Nat) : Nat := fmul .f64 (fmul .f64 f 4618760256179416344) (sinP (fmul .f64 (fmul .f64 f 4618760256179416344) (fmul .f64 f 4618760256179416344)) 8)

/-! ### the numbers -/
def abs64 (x : Nat) : Nat := x % 9223372036854775808
def sine64 (x : Nat) : Nat :=
  (fun f : Nat => (fun h : Nat => (fun h : Nat => bif fge .f64 f 4602678819172646912 then fneg .f64 (sinO h) else sinO h) (bif fgt .f64 h 4598175219545276416 then fsub .f64 4602678819172646912 h else h))
    (bif fge .f64 f 4602678819172646912 then fsub .f64 f 4602678819172646912 else f)) (bif flt .f64 (widen x) 0 then fadd .f64 (widen x) 4607182418800017408 else widen x)
def sineN (x : Nat) : Nat := narrow (sine64 x)
def sinOk (z : Nat) : Bool := fin .f32 z && (flt .f64 (abs64 (widen z)) 4607182418800017408 && !ovf (sine64 z))
theorem abs_sg (x : Nat) : sg .f64 (abs64 x) = false := by
  have : abs64 x < 9223372036854775808 := Nat.mod_lt _ (by decide)
  unfold sg
  rw [show signOf .f64 = 9223372036854775808 from rfl, Nat.div_eq_of_lt this]; rfl
theorem trunc_small {v : Nat} (hf : fin .f64 v = true) (h1 : -1 < ev .f64 v) (h2 : ev .f64 v < 1) : feq .f64 (fwhole .zero v) 0 = true := by
  obtain ⟨m, e, e1, e2⟩ := read_fin hf
  have nn : 0 ≤ (m : Rat) * pw e := Rat.mul_nonneg Rat.natCast_nonneg (Rat.le_of_lt (pw_pos _))
  have hv : ev .f64 v = sgd (sg .f64 v) ((m : Rat) * pw e) := by rw [e2]; rfl
  have hlt : (m : Rat) * pw e < 1 := by
    rw [hv] at h1 h2
    cases s : sg .f64 v <;> rw [s] at h1 h2 <;> simp only [sgd, cond_true, cond_false] at h1 h2 <;> grind
  obtain ⟨p1, p2⟩ := whole_part m e
  unfold fwhole FloatKind.decode FloatKind.encode
  rw [fin_nan hf, cond_false, e1]
  simp only [Datum.integral, Format.write]
  rw [cut_zero]
  have : m <<< e.toNat / 2 ^ (-e).toNat = 0 := by
    generalize m <<< e.toNat / 2 ^ (-e).toNat = n at *
    have : (n : Rat) < ((1 : Nat) : Rat) := by
      have : ((1 : Nat) : Rat) = 1 := rfl
      grind
    have := Rat.natCast_lt_natCast.1 this
    omega
  rw [this]
  cases sg .f64 v <;> decide +kernel
theorem one_ev : ev .f64 4607182418800017408 = 1 := by
  rw [ev_lit (k := .f64) false 1022 4503599627370496 (by decide) (by decide) (by decide) (by decide)]
  show ((4503599627370496 : Nat) : Rat) * pw (-1074 + 1022) = 1
  unfold pw
  decide +kernel
theorem sinOk_trunc {z : Nat} (h : sinOk z = true) (hl : z < 2 * signOf .f32) : feq .f64 (fwhole .zero (widen z)) 0 = true ∧ nan .f64 (widen z) = false ∧ fge .f64 (abs64 (widen z)) 4841369599423283200 = false ∧ fin .f32 z = true ∧ ovf (sine64 z) = false := by
  unfold sinOk at h
  simp only [Bool.and_eq_true, Bool.not_eq_true'] at h
  obtain ⟨h1, h2, h3⟩ := h
  have hx := widen_ex (b := z) (q := ev .f32 z) ⟨h1, hl, rfl⟩
  have hab : abs64 (widen z) = rung .f64 (widen z) := rfl
  have hrr : rung .f64 (abs64 (widen z)) = rung .f64 (widen z) := by rw [hab]; unfold rung; exact Nat.mod_mod _ _
  have hev : ev .f64 (abs64 (widen z)) = mg FloatKind.f64.format (rung .f64 (widen z)) := by unfold ev; rw [abs_sg, hrr]; rfl
  have hfa : fin .f64 (abs64 (widen z)) = true := by rw [fin_iff, hrr]; exact fin_iff.1 hx.f
  rw [flt_ev (fin_nan hfa) (by decide +kernel), decide_eq_true_eq, one_ev, hev] at h2
  have hw : ev .f64 (widen z) = sgd (sg .f64 (widen z)) (mg FloatKind.f64.format (rung .f64 (widen z))) := rfl
  have h0 := mg_nonneg FloatKind.f64.format (rung .f64 (widen z))
  refine ⟨trunc_small hx.f ?_ ?_, hx.nan, ?_, h1, h3⟩
  · rw [hw]; cases sg .f64 (widen z) <;> simp only [sgd, cond_true, cond_false] <;> grind
  · rw [hw]; cases sg .f64 (widen z) <;> simp only [sgd, cond_true, cond_false] <;> grind
  · have hc : flt .f64 4607182418800017408 4841369599423283200 = true := by decide +kernel
    rw [flt_ev (by decide +kernel) (by decide +kernel), decide_eq_true_eq, one_ev] at hc
    rw [fge_ev (fin_nan hfa) (by decide +kernel), decide_eq_false]
    rw [hev]
    exact Rat.not_le.2 (by grind)
end Fl
end Go.Ev

/- Floats as rational numbers: rounding to a whole number. -/
set_option linter.unusedVariables false
set_option linter.unusedSimpArgs false
namespace Go.Ev
open Ieee

namespace Fl
theorem Rep.up64 {q : Rat} (h : Rep .f32 q) : Rep .f64 q := by
  obtain ⟨w, h1, h2, h3⟩ := h
  exact (widen_ex (b := w) (q := q) ⟨h1, h2, h3⟩).rep
/-- What is far from zero and fits into 32 bits is whole. -/
theorem far_int {q : Rat} (h : Rep .f32 q) (h0 : 0 ≤ q) (hq : (16777216 : Rat) ≤ q) : ∃ k : Nat, q = (k : Rat) := by
  obtain ⟨w, h1, h2, h3⟩ := h
  obtain ⟨m, e, e1, e2, e3, e4⟩ := read_fin2 h1
  have hv : sgd (sg .f32 w) ((m : Rat) * pw e) = q := by rw [e2]; exact h3
  have nn : 0 ≤ (m : Rat) * pw e := Rat.mul_nonneg Rat.natCast_nonneg (Rat.le_of_lt (pw_pos _))
  have hq' : (m : Rat) * pw e = q := by
    cases s : sg .f32 w <;> rw [s] at hv <;> simp only [sgd, cond_true, cond_false] at hv <;> grind
  by_cases he : 0 ≤ e
  · obtain ⟨j, rfl⟩ : ∃ j : Nat, e = (j : Int) := ⟨e.toNat, by omega⟩
    exact ⟨m * 2 ^ j, by rw [← hq', pw_nat, Rat.natCast_mul]⟩
  · exfalso
    have hm : m ≤ 16777215 := by have : 2 * FloatKind.f32.format.binade = 16777216 := by decide
                                 omega
    have hm' : (m : Rat) ≤ 16777215 := by
      have := Rat.natCast_le_natCast.2 hm
      exact this
    have hp : pw e ≤ 1 := by rw [← pw_zero]; exact pw_le (by omega)
    have hp0 := pw_pos e
    have : (m : Rat) * pw e ≤ (m : Rat) * 1 := Rat.mul_le_mul_of_nonneg_left hp Rat.natCast_nonneg
    grind
/-- A 32-bit number rounded to a whole one, to the even one between two. -/
theorem even_ex {v : Nat} {q : Rat} (h : Ex .f64 v q) (hr : Rep .f32 q) : ∃ n : Int, Ex .f64 (fwhole .even v) (n : Rat) ∧ Rep .f32 (n : Rat) ∧ 2 * (n : Rat) ≤ 2 * q + 1 ∧ 2 * q ≤ 2 * (n : Rat) + 1 := by
  obtain ⟨m, e, e1, e2, _⟩ := read_fin2 h.f
  have hv : sgd (sg .f64 v) ((m : Rat) * pw e) = q := by rw [e2]; exact h.e
  have nn : 0 ≤ (m : Rat) * pw e := Rat.mul_nonneg Rat.natCast_nonneg (Rat.le_of_lt (pw_pos _))
  have hx : (m : Rat) * pw e * ((2 ^ (-e).toNat : Nat) : Rat) = ((m <<< e.toNat : Nat) : Rat) := by
    rw [Nat.shiftLeft_eq, Rat.natCast_mul, ← pw_nat, ← pw_nat, Rat.mul_assoc, ← pw_add]
    congr 2
    omega
  obtain ⟨c1, c2, _⟩ := cut_spec (sg .f64 v) (m <<< e.toNat) (-e).toNat
  unfold fwhole FloatKind.decode FloatKind.encode
  rw [h.nan, cond_false, e1]
  simp only [Datum.integral, Format.write]
  generalize Toward.even.cut (sg .f64 v) (m <<< e.toNat) (-e).toNat = c at *
  have g0 : 0 < 2 ^ (-e).toNat := Nat.two_pow_pos _
  have ha : Rep .f32 ((m : Rat) * pw e) := by
    cases s : sg .f64 v <;> rw [s] at hv <;> simp only [sgd, cond_true, cond_false] at hv
    · rw [hv]; exact hr
    · rw [show (m : Rat) * pw e = -q by grind]; exact hr.neg
  generalize m <<< e.toNat = N at *
  generalize 2 ^ (-e).toNat = g at *
  generalize (m : Rat) * pw e = a at *
  have g0' : (0 : Rat) < (g : Rat) := Rat.natCast_pos.2 g0
  have d1 : 2 * a ≤ 2 * (c : Rat) + 1 := by
    have := Rat.natCast_le_natCast.2 c1
    simp only [Rat.natCast_mul, Rat.natCast_add] at this
    refine Rat.le_of_mul_le_mul_right (c := (g : Rat)) ?_ g0'
    have two : ((2 : Nat) : Rat) = 2 := rfl
    have one : ((1 : Nat) : Rat) = 1 := rfl
    rw [two, one] at this
    grind
  have d2 : 2 * (c : Rat) ≤ 2 * a + 1 := by
    have := Rat.natCast_le_natCast.2 c2
    simp only [Rat.natCast_mul, Rat.natCast_add] at this
    refine Rat.le_of_mul_le_mul_right (c := (g : Rat)) ?_ g0'
    have two : ((2 : Nat) : Rat) = 2 := rfl
    rw [two] at this
    grind
  have hc : Rep .f32 (c : Rat) := by
    by_cases hb : a < 16777216
    · have : (c : Rat) < ((16777217 : Nat) : Rat) := by
        have : ((16777217 : Nat) : Rat) = 16777217 := rfl
        grind
      have := Rat.natCast_lt_natCast.1 this
      exact rep32 (c : Int) 0 (by rw [Nat.pow_zero]; exact Rat.mul_one _) (by omega) (by omega)
    · obtain ⟨k, hk⟩ := far_int ha nn (Rat.not_lt.1 hb)
      have : c = k := by
        rw [hk] at d1 d2
        have l1 : ((2 * k : Nat) : Rat) ≤ ((2 * c + 1 : Nat) : Rat) := by
          rw [Rat.natCast_mul, Rat.natCast_add, Rat.natCast_mul]; exact d1
        have l2 : ((2 * c : Nat) : Rat) ≤ ((2 * k + 1 : Nat) : Rat) := by
          rw [Rat.natCast_mul, Rat.natCast_add, Rat.natCast_mul]; exact d2
        have l1 := Rat.natCast_le_natCast.1 l1
        have l2 := Rat.natCast_le_natCast.1 l2
        omega
      rw [this, ← hk]; exact ha
  cases s : sg .f64 v with
  | false =>
    rw [s] at hv
    simp only [sgd, cond_false] at hv
    refine ⟨(c : Int), ?_, hc, by rw [← hv]; exact d2, by rw [← hv]; exact d1⟩
    have hs : sgd false ((c : Rat) * pw 0) = ((c : Int) : Rat) := by rw [pw_zero, Rat.mul_one]; rfl
    exact (Rnd.of hs).ex hc.up64
  | true =>
    rw [s] at hv
    simp only [sgd, cond_true] at hv
    have en : ((-(c : Int) : Int) : Rat) = -(c : Rat) := Rat.intCast_neg _
    refine ⟨-(c : Int), ?_, by rw [en]; exact hc.neg, by rw [en, ← hv]; grind, by rw [en, ← hv]; grind⟩
    have hs : sgd true ((c : Rat) * pw 0) = ((-(c : Int) : Int) : Rat) := by rw [pw_zero, Rat.mul_one, en]; rfl
    exact (Rnd.of hs).ex (by rw [en]; exact hc.neg.up64)
theorem even_ovf {x : Nat} (hl : x < 2 * signOf .f32) (hc : canon .f32 x = x) : ovf (fwhole .even (widen x)) = false := by
  cases hn : nan .f32 x with
  | true =>
    rw [canon_nan hn] at hc
    rw [← hc]
    decide +kernel
  | false =>
    cases hf : fin .f32 x with
    | true =>
      have hx : Ex .f32 x (ev .f32 x) := ⟨hf, hl, rfl⟩
      obtain ⟨n, h1, h2, _⟩ := even_ex (widen_ex hx) hx.rep
      exact (narrow_ex h1 h2).2
    | false =>
      have : x = 2139095040 ∨ x = 4286578688 := by
        have h1 : nan .f32 x = false := hn
        have h3 : ¬ rung .f32 x < infOf .f32 := by rw [← fin_iff, hf]; exact Bool.noConfusion
        have h2 := x_cases hl
        rw [nan_false] at h1
        have e1 : infOf .f32 = 2139095040 := rfl
        have e2 : signOf .f32 = 2147483648 := rfl
        have e3 : rung .f32 x = x % 2147483648 := rfl
        rw [e1] at h1 h3
        rw [e2] at h2
        omega
      rcases this with rfl | rfl <;> decide +kernel
end Fl
end Go.Ev

/- math.RoundToEven, for all floats. -/
set_option linter.unusedVariables false
set_option linter.unusedSimpArgs false
namespace Go.Ev

def sEven : Sm := fun args hs K =>
  match args with
  | [.float .f64 x] => K (.float .f64 (fwhole .even x)) hs
  | _ => False

theorem quiet_pos (t : Nat) : 0 < (FloatKind.f64.format.quiet t) % FloatKind.f64.format.binade := by
  have e : (FloatKind.f64.format.quiet t) % FloatKind.f64.format.binade = (t ||| 2 ^ 51) % 2 ^ 52 := rfl
  rw [e]
  have h : ((t ||| 2 ^ 51) % 2 ^ 52).testBit 51 = true := by
    rw [Nat.testBit_mod_two_pow, Nat.testBit_or, Nat.testBit_two_pow_self]
    simp
  rcases Nat.eq_zero_or_pos ((t ||| 2 ^ 51) % 2 ^ 52) with h0 | h0
  · rw [h0] at h; simp at h
  · exact h0
theorem enc_nan (s : Bool) (t : Nat) : nan .f64 (FloatKind.f64.encode (.nan s (FloatKind.f64.format.quiet t))) = true ∧ FloatKind.f64.encode (.nan s (FloatKind.f64.format.quiet t)) < 2 * signOf .f64 := by
  have h := quiet_pos t
  have h2 : (FloatKind.f64.format.quiet t) % FloatKind.f64.format.binade < 4503599627370496 := Nat.mod_lt _ (by decide)
  have e : FloatKind.f64.encode (.nan s (FloatKind.f64.format.quiet t)) = if s then 9223372036854775808 + (9218868437227405312 + (FloatKind.f64.format.quiet t) % FloatKind.f64.format.binade) else (9218868437227405312 + (FloatKind.f64.format.quiet t) % FloatKind.f64.format.binade) := rfl
  have e2 : 2 * signOf .f64 = 18446744073709551616 := rfl
  generalize (FloatKind.f64.format.quiet t) % FloatKind.f64.format.binade = r at *
  rw [nan_iff, e, e2]
  show 9218868437227405312 < _ % 9223372036854775808 ∧ _
  split <;> omega
theorem choose_ext (P : Program) (what : String) (w : World) : ∃ r w', (choose (.extern what 2)).run P w = .ok r w' ∧ Drawn w w' :=
  ⟨(Question.extern what 2).cut (w.tape w.drawn (Question.extern what 2)), _, by simp [Question.forced], Drawn.drew w⟩

theorem ok_even {P : Program} {k : FuncId} {fn : Func} (name : String) (hf : P.funcs[k]? = some fn) (hname : (fn.name == "runtime.NumGoroutine") = false)
    (hb : fn.body.isNone = true) (hn : Extern.findNext fn = none) (he : Extern.find fn = some (Extern.MathFloor.toIntegral name .even)) : FnOk P k sEven := by
  refine fnOk_ext hf hname hb hn he ?_
  intro args K h
  unfold sEven at h
  split at h
  · rename_i x
    refine ⟨_, h, fun K' h' => h', ?_⟩
    intro w M cargs hv
    cases hv with
    | cons a b =>
      cases b
      cases a with
      | float _ _ b' h1 h2 =>
        subst h2
        cases hx : nan .f64 b' with
        | false =>
          rw [canon_not hx]
          have hd := read_not_nan hx
          have hp : ∀ d, FloatKind.f64.decode b' = d → plainD d = true := by
            intro d e
            cases d with
            | nan s t => exact absurd e (hd s t)
            | infinity s => rfl
            | number s m p => rfl
          have hpl : plainD (((FloatKind.f64.decode b').integral .even)) = true := by
            have := hp _ rfl
            revert this
            cases FloatKind.f64.decode b' with
            | nan s t => exact id
            | infinity s => exact fun _ => rfl
            | number s m p => exact fun _ => rfl
          refine ⟨.float .f64 (FloatKind.f64.encode ((FloatKind.f64.decode b').integral .even)), w, ?_, Drawn.refl w, ?_⟩
          · have h0 : (Extern.MathFloor.toIntegral name .even #[.float .f64 b']) = (match FloatKind.f64.decode b' with
              | .nan s t => (if FloatKind.f64.format.quiet t = t then pure (.float .f64 b') else do
                let kept ← choose (.extern "math.Floor,Ceil,Trunc,RoundToEven.signallingNaN kept" 2)
                pure (.float .f64 (if kept == 1 then b' else FloatKind.f64.encode (.nan s (FloatKind.f64.format.quiet t)))))
              | d => pure (.float .f64 (FloatKind.f64.encode (d.integral .even)))) := rfl
            show (Extern.MathFloor.toIntegral name .even #[.float .f64 b']).run P w = _
            rw [h0]
            have := hp _ rfl
            revert this
            cases FloatKind.f64.decode b' with
            | nan s t => exact fun c => by cases c
            | infinity s => exact fun _ => rfl
            | number s m p => exact fun _ => rfl
          · have hn' : nan .f64 (FloatKind.f64.encode ((FloatKind.f64.decode b').integral .even)) = false := nan_write hpl
            refine .float _ _ _ ?_ ?_
            · have := FloatKind.f64.format.write_lt ((FloatKind.f64.decode b').integral .even)
              rw [← width_eq]
              exact this
            · unfold fwhole
              rw [hx, cond_false, canon_not hn']
        | true =>
          rw [canon_nan hx]
          have hw : fwhole .even (qnan .f64) = qnan .f64 := by unfold fwhole; rw [nan_qnan]; rfl
          rw [hw]
          obtain ⟨s, t, hr⟩ := read_nan hx
          have hr : FloatKind.f64.decode b' = .nan s t := hr
          have h0 : (Extern.MathFloor.toIntegral name .even #[.float .f64 b']) = (match FloatKind.f64.decode b' with
              | .nan s t => (if FloatKind.f64.format.quiet t = t then pure (.float .f64 b') else do
                let kept ← choose (.extern "math.Floor,Ceil,Trunc,RoundToEven.signallingNaN kept" 2)
                pure (.float .f64 (if kept == 1 then b' else FloatKind.f64.encode (.nan s (FloatKind.f64.format.quiet t)))))
              | d => pure (.float .f64 (FloatKind.f64.encode (d.integral .even)))) := rfl
          rw [hr] at h0
          simp only at h0
          by_cases hq : FloatKind.f64.format.quiet t = t
          · rw [if_pos hq] at h0
            refine ⟨.float .f64 b', w, ?_, Drawn.refl w, .float _ _ _ h1 (canon_nan hx).symm⟩
            show (Extern.MathFloor.toIntegral name .even #[.float .f64 b']).run P w = _
            rw [h0]; rfl
          · rw [if_neg hq] at h0
            obtain ⟨r, w', hc, hd⟩ := choose_ext P "math.Floor,Ceil,Trunc,RoundToEven.signallingNaN kept" w
            refine ⟨.float .f64 (if r == 1 then b' else FloatKind.f64.encode (.nan s (FloatKind.f64.format.quiet t))), w', ?_, hd, ?_⟩
            · show (Extern.MathFloor.toIntegral name .even #[.float .f64 b']).run P w = _
              rw [h0, Sem.run_bind, hc]; rfl
            · obtain ⟨e1, e2⟩ := enc_nan s t
              cases (r == 1) with
              | true => exact .float _ _ _ h1 (canon_nan hx).symm
              | false => exact .float _ _ _ e2 (canon_nan e1).symm
  · exact h.elim

end Go.Ev

/- Roots, lengths, sines: their walks, beside shapes. -/
set_option linter.unusedVariables false
set_option linter.unusedSimpArgs false
set_option maxRecDepth 100000
namespace Go.Proofs.Ytfhpmcdbfebflaa
open Go.Ev Go.Ev.Fl

abbrev s_math_Float64bits : Sm := sF64bits
theorem ok_math_Float64bits : FnOk Try.prog 176 (sF64bits) := ok_F64bits Try.func176 (by kernel_rfl) (by kernel_rfl) (by kernel_rfl) (by kernel_rfl)
abbrev s_math_Float64frombits : Sm := sF64from
theorem ok_math_Float64frombits : FnOk Try.prog 175 (sF64from) := ok_F64from Try.func175 (by kernel_rfl) (by kernel_rfl) (by kernel_rfl) (by kernel_rfl)
abbrev s_math_archTrunc : Sm := sWhole .zero
theorem ok_math_archTrunc : FnOk Try.prog 177 (sWhole .zero) := ok_whole "math.archTrunc" .zero Try.func177 (by kernel_rfl) (by kernel_rfl) (by kernel_rfl) (by kernel_rfl)
abbrev s_math_RoundToEven : Sm := sEven
theorem ok_math_RoundToEven : FnOk Try.prog 179 (sEven) := ok_even "math.RoundToEven" Try.func179 (by kernel_rfl) (by kernel_rfl) (by kernel_rfl) (by kernel_rfl)

/-! words of numbers -/
theorem cond_yes {c : Bool} {P Q : Prop} (hc : c = true) (h : P) : cond c P Q := by rw [hc]; exact h
theorem cond_of {c : Bool} {P Q : Prop} (hc : c = false) (h : Q) : cond c P Q := by rw [hc]; exact h

/-! math.NaN -/
noncomputable def c_math_NaN : Ctx := mkC Try.prog tyT [(175, s_math_Float64frombits)] [] [] 2 (fun _ => none) 0
theorem w_math_NaN (K : V → Heap → Prop) : wpFn c_math_NaN Try.f160 (encAs [] ()) [] K =
  K (.float .f64 (canon FloatKind.f64 9221120237041090561)) [] := by kernel_rfl
noncomputable def s_math_NaN : Sm := semT [] fun x => match x with | _ => .float .f64 9221120237041090560
theorem ok_math_NaN : FnOk Try.prog 160 s_math_NaN := fnOk_typed (fnOk_runC (C := c_math_NaN) rfl mixed (.cons ok_math_Float64frombits .nil) .nil .nil Try.func160 (by kernel_rfl)) fun (x : Unit) wf K h => by
  obtain ⟨⟩ := x
  replace h : K (.float .f64 9221120237041090560) [] := h
  rw [w_math_NaN  K]
  rw [show canon FloatKind.f64 9221120237041090561 = 9221120237041090560 by decide +kernel]
  exact h

theorem abs_bits {x : Nat} (h : x < 18446744073709551616) : Int.toNat (IntKind.wrap IntKind.u64 (↑(BitVec.toNat (BitVec.ofInt 64 (↑x : Int) &&& ~~~BitVec.ofInt 64 9223372036854775808)) : Int)) = x % 9223372036854775808 := by
  have e : BitVec.toNat (BitVec.ofInt 64 (↑x : Int) &&& ~~~BitVec.ofInt 64 9223372036854775808) = x % 9223372036854775808 := by
    rw [BitVec.toNat_and, BitVec.ofInt_natCast, BitVec.toNat_ofNat, Nat.mod_eq_of_lt (show x < 2 ^ 64 from h)]
    exact Nat.and_two_pow_sub_one_eq_mod x 63
  rw [e, wrap_of (by have : IntKind.u64.min = 0 := rfl; omega) (by have : IntKind.u64.max = 18446744073709551615 := rfl; omega)]
  omega
--B absW Nat → Nat
def absW (x : Nat) : Nat := abs64 x
/-! math.Abs -/
noncomputable def c_math_Abs : Ctx := mkC Try.prog tyT [(176, s_math_Float64bits), (175, s_math_Float64frombits)] [] [] 7 (fun _ => none) 0
theorem w_math_Abs (x : Nat) (K : V → Heap → Prop) : wpFn c_math_Abs Try.f161 (encAs [.cell (.float .f64)] (x, ())) [] K =
  cond (nan FloatKind.f64 x)
    (False)
    (K (.float .f64 (canon FloatKind.f64 (Int.toNat (IntKind.wrap IntKind.u64 (↑(BitVec.toNat (BitVec.ofInt 64 (↑x : Int) &&& ~~~BitVec.ofInt 64 9223372036854775808)) : Int))))) []) := by kernel_rfl
noncomputable def s_math_Abs : Sm := semG [.cell (.float .f64)] (fun x => match x with | (x, _) => !nan .f64 x) fun x => match x with | (x, _) => .float .f64 (absW x)
theorem ok_math_Abs : FnOk Try.prog 161 s_math_Abs := fnOk_typedG (fnOk_runC (C := c_math_Abs) rfl mixed (.cons ok_math_Float64bits (.cons ok_math_Float64frombits .nil)) .nil .nil Try.func161 (by kernel_rfl)) fun (x : ((Nat) × Unit)) wf hg K h => by
  obtain ⟨x, ⟨⟩⟩ := x
  replace hg : (!nan .f64 x) = true := hg
  replace h : K (.float .f64 (absW x)) [] := h
  rw [w_math_Abs x K]
  rw [Bool.not_eq_true'] at hg
  rw [hg]
  have hl : x < 18446744073709551616 := wf.1.1
  rw [abs_bits hl]
  have hn : nan .f64 (x % 9223372036854775808) = false := by
    rw [nan_false] at hg ⊢
    show x % 9223372036854775808 % 9223372036854775808 ≤ _
    rw [Nat.mod_mod]
    exact hg
  rw [canon_not hn]
  exact h

/-! math.Trunc -/
noncomputable def c_math_Trunc : Ctx := mkC Try.prog tyT [(177, s_math_archTrunc)] [] [] 7 (fun _ => none) 0
theorem w_math_Trunc (x : Nat) (K : V → Heap → Prop) : wpFn c_math_Trunc Try.f162 (encAs [.cell (.float .f64)] (x, ())) [] K =
  cond (nan FloatKind.f64 x)
    (False)
    (K (.float .f64 (fwhole Ieee.Toward.zero x)) []) := by kernel_rfl
noncomputable def s_math_Trunc : Sm := semG [.cell (.float .f64)] (fun x => match x with | (x, _) => !nan .f64 x) fun x => match x with | (x, _) => .float .f64 (fwhole .zero x)
theorem ok_math_Trunc : FnOk Try.prog 162 s_math_Trunc := fnOk_typedG (fnOk_runC (C := c_math_Trunc) rfl mixed (.cons ok_math_archTrunc .nil) .nil .nil Try.func162 (by kernel_rfl)) fun (x : ((Nat) × Unit)) wf hg K h => by
  obtain ⟨x, ⟨⟩⟩ := x
  replace hg : (!nan .f64 x) = true := hg
  replace h : K (.float .f64 (fwhole .zero x)) [] := h
  rw [w_math_Trunc x K]
  cases e : nan .f64 x <;> rw [e] at hg
  · exact h
  · cases hg

theorem finN_fin {x : Nat} (hl : x < 2 * signOf .f32) : finN x = fin .f32 x := sub_self hl
--B sineF Nat → Nat
def sineF (x : Nat) : Nat := sineN x
--B sineOk Nat → Bool
def sineOk (x : Nat) : Bool := sinOk x
/-! impl.SineTurns -/
noncomputable def a_impl_SineTurns : Nat → Option Ann := fun n => bif Nat.beq n 19 then some ⟨[5,6,7,8,9],0,false⟩ else none
noncomputable def c_impl_SineTurns : Ctx := mkC Try.prog tyT [(78, s_impl_IsFinite), (160, s_math_NaN), (161, s_math_Abs), (162, s_math_Trunc)] [] [] 72 a_impl_SineTurns 0
noncomputable def fr_impl_SineTurns_19 (f z u p : Nat) (b' : Bool) (i : Int) : Fr := [(5, .bool b'), (6, .float .f64 z), (7, .float .f64 u), (8, .float .f64 p), (9, .int .i64 i)]
theorem r_impl_SineTurns_19 (f z u p : Nat) (b' : Bool) (i : Int) (Kn : Fr → Heap → Prop) (K : V → Heap → Prop) : round c_impl_SineTurns ⟨[5,6,7,8,9],0,false⟩ (lb c_impl_SineTurns 19 Try.f136) (fr_impl_SineTurns_19 f z u p b' i) [] Kn (lk c_impl_SineTurns 19 Try.f136 [] K) =
  cond (decide (i ≥ 1))
    (Kn [(5, (.bool (b'))), (6, (.float .f64 (z))), (7, (.float .f64 (u))), (8, (.float .f64 (fsub FloatKind.f64 4607182418800017408 (fdiv FloatKind.f64 (fmul FloatKind.f64 u p) (FloatKind.nearest FloatKind.f64 (IntKind.wrap IntKind.i64 (IntKind.wrap IntKind.i64 (2 * i) * IntKind.wrap IntKind.i64 (IntKind.wrap IntKind.i64 (2 * i) + 1)))))))), (9, (.int .i64 (IntKind.wrap IntKind.i64 (i - 1))))] [])
    (cond (b')
      (cond (ovf (fneg FloatKind.f64 (fmul FloatKind.f64 z p)))
        (K .undef [])
        (K (.float .f32 (narrow (fneg FloatKind.f64 (fmul FloatKind.f64 z p)))) []))
      (cond (ovf (fmul FloatKind.f64 z p))
        (K .undef [])
        (K (.float .f32 (narrow (fmul FloatKind.f64 z p))) []))) := by kernel_rfl
theorem w_impl_SineTurns (x : Nat) (K : V → Heap → Prop) : wpFn c_impl_SineTurns Try.f136 (encAs [.cell tF] (x, ())) [] K =
  cond (!finN x)
    (cond (ovf 9221120237041090560)
      (K .undef [])
      (K (.float .f32 (narrow 9221120237041090560)) []))
    (cond (!nan FloatKind.f64 (widen x))
      (cond (fge FloatKind.f64 (absW (widen x)) 4841369599423283200)
        (K (.float .f32 0) [])
        (cond (!nan FloatKind.f64 (widen x))
          (cond (!feq FloatKind.f64 (fwhole Ieee.Toward.zero (widen x)) 0)
            (cond (flt FloatKind.f64 (fsub FloatKind.f64 (widen x) (fwhole Ieee.Toward.zero (widen x))) 0)
              (cond (fge FloatKind.f64 (fadd FloatKind.f64 (fsub FloatKind.f64 (widen x) (fwhole Ieee.Toward.zero (widen x))) 4607182418800017408) 4602678819172646912)
                (cond (fgt FloatKind.f64 (fsub FloatKind.f64 (fadd FloatKind.f64 (fsub FloatKind.f64 (widen x) (fwhole Ieee.Toward.zero (widen x))) 4607182418800017408) 4602678819172646912) 4598175219545276416)
                  (LoopE c_impl_SineTurns ⟨[5, 6, 7, 8, 9], 0, false⟩ (lb c_impl_SineTurns 19 Try.f136) [(5, (.bool (fge FloatKind.f64 (fadd FloatKind.f64 (fsub FloatKind.f64 (widen x) (fwhole Ieee.Toward.zero (widen x))) 4607182418800017408) 4602678819172646912))), (6, (.float .f64 (fmul FloatKind.f64 (fsub FloatKind.f64 4602678819172646912 (fsub FloatKind.f64 (fadd FloatKind.f64 (fsub FloatKind.f64 (widen x) (fwhole Ieee.Toward.zero (widen x))) 4607182418800017408) 4602678819172646912)) 4618760256179416344))), (7, (.float .f64 (fmul FloatKind.f64 (fmul FloatKind.f64 (fsub FloatKind.f64 4602678819172646912 (fsub FloatKind.f64 (fadd FloatKind.f64 (fsub FloatKind.f64 (widen x) (fwhole Ieee.Toward.zero (widen x))) 4607182418800017408) 4602678819172646912)) 4618760256179416344) (fmul FloatKind.f64 (fsub FloatKind.f64 4602678819172646912 (fsub FloatKind.f64 (fadd FloatKind.f64 (fsub FloatKind.f64 (widen x) (fwhole Ieee.Toward.zero (widen x))) 4607182418800017408) 4602678819172646912)) 4618760256179416344)))), (8, (.float .f64 4607182418800017408)), (9, (.int .i64 8))] [] (lk c_impl_SineTurns 19 Try.f136 [] K))
                  (LoopE c_impl_SineTurns ⟨[5, 6, 7, 8, 9], 0, false⟩ (lb c_impl_SineTurns 19 Try.f136) [(5, (.bool (fge FloatKind.f64 (fadd FloatKind.f64 (fsub FloatKind.f64 (widen x) (fwhole Ieee.Toward.zero (widen x))) 4607182418800017408) 4602678819172646912))), (6, (.float .f64 (fmul FloatKind.f64 (fsub FloatKind.f64 (fadd FloatKind.f64 (fsub FloatKind.f64 (widen x) (fwhole Ieee.Toward.zero (widen x))) 4607182418800017408) 4602678819172646912) 4618760256179416344))), (7, (.float .f64 (fmul FloatKind.f64 (fmul FloatKind.f64 (fsub FloatKind.f64 (fadd FloatKind.f64 (fsub FloatKind.f64 (widen x) (fwhole Ieee.Toward.zero (widen x))) 4607182418800017408) 4602678819172646912) 4618760256179416344) (fmul FloatKind.f64 (fsub FloatKind.f64 (fadd FloatKind.f64 (fsub FloatKind.f64 (widen x) (fwhole Ieee.Toward.zero (widen x))) 4607182418800017408) 4602678819172646912) 4618760256179416344)))), (8, (.float .f64 4607182418800017408)), (9, (.int .i64 8))] [] (lk c_impl_SineTurns 19 Try.f136 [] K)))
                (cond (fgt FloatKind.f64 (fadd FloatKind.f64 (fsub FloatKind.f64 (widen x) (fwhole Ieee.Toward.zero (widen x))) 4607182418800017408) 4598175219545276416)
                  (LoopE c_impl_SineTurns ⟨[5, 6, 7, 8, 9], 0, false⟩ (lb c_impl_SineTurns 19 Try.f136) [(5, (.bool (fge FloatKind.f64 (fadd FloatKind.f64 (fsub FloatKind.f64 (widen x) (fwhole Ieee.Toward.zero (widen x))) 4607182418800017408) 4602678819172646912))), (6, (.float .f64 (fmul FloatKind.f64 (fsub FloatKind.f64 4602678819172646912 (fadd FloatKind.f64 (fsub FloatKind.f64 (widen x) (fwhole Ieee.Toward.zero (widen x))) 4607182418800017408)) 4618760256179416344))), (7, (.float .f64 (fmul FloatKind.f64 (fmul FloatKind.f64 (fsub FloatKind.f64 4602678819172646912 (fadd FloatKind.f64 (fsub FloatKind.f64 (widen x) (fwhole Ieee.Toward.zero (widen x))) 4607182418800017408)) 4618760256179416344) (fmul FloatKind.f64 (fsub FloatKind.f64 4602678819172646912 (fadd FloatKind.f64 (fsub FloatKind.f64 (widen x) (fwhole Ieee.Toward.zero (widen x))) 4607182418800017408)) 4618760256179416344)))), (8, (.float .f64 4607182418800017408)), (9, (.int .i64 8))] [] (lk c_impl_SineTurns 19 Try.f136 [] K))
                  (LoopE c_impl_SineTurns ⟨[5, 6, 7, 8, 9], 0, false⟩ (lb c_impl_SineTurns 19 Try.f136) [(5, (.bool (fge FloatKind.f64 (fadd FloatKind.f64 (fsub FloatKind.f64 (widen x) (fwhole Ieee.Toward.zero (widen x))) 4607182418800017408) 4602678819172646912))), (6, (.float .f64 (fmul FloatKind.f64 (fadd FloatKind.f64 (fsub FloatKind.f64 (widen x) (fwhole Ieee.Toward.zero (widen x))) 4607182418800017408) 4618760256179416344))), (7, (.float .f64 (fmul FloatKind.f64 (fmul FloatKind.f64 (fadd FloatKind.f64 (fsub FloatKind.f64 (widen x) (fwhole Ieee.Toward.zero (widen x))) 4607182418800017408) 4618760256179416344) (fmul FloatKind.f64 (fadd FloatKind.f64 (fsub FloatKind.f64 (widen x) (fwhole Ieee.Toward.zero (widen x))) 4607182418800017408) 4618760256179416344)))), (8, (.float .f64 4607182418800017408)), (9, (.int .i64 8))] [] (lk c_impl_SineTurns 19 Try.f136 [] K))))
              (cond (fge FloatKind.f64 (fsub FloatKind.f64 (widen x) (fwhole Ieee.Toward.zero (widen x))) 4602678819172646912)
                (cond (fgt FloatKind.f64 (fsub FloatKind.f64 (fsub FloatKind.f64 (widen x) (fwhole Ieee.Toward.zero (widen x))) 4602678819172646912) 4598175219545276416)
                  (LoopE c_impl_SineTurns ⟨[5, 6, 7, 8, 9], 0, false⟩ (lb c_impl_SineTurns 19 Try.f136) [(5, (.bool (fge FloatKind.f64 (fsub FloatKind.f64 (widen x) (fwhole Ieee.Toward.zero (widen x))) 4602678819172646912))), (6, (.float .f64 (fmul FloatKind.f64 (fsub FloatKind.f64 4602678819172646912 (fsub FloatKind.f64 (fsub FloatKind.f64 (widen x) (fwhole Ieee.Toward.zero (widen x))) 4602678819172646912)) 4618760256179416344))), (7, (.float .f64 (fmul FloatKind.f64 (fmul FloatKind.f64 (fsub FloatKind.f64 4602678819172646912 (fsub FloatKind.f64 (fsub FloatKind.f64 (widen x) (fwhole Ieee.Toward.zero (widen x))) 4602678819172646912)) 4618760256179416344) (fmul FloatKind.f64 (fsub FloatKind.f64 4602678819172646912 (fsub FloatKind.f64 (fsub FloatKind.f64 (widen x) (fwhole Ieee.Toward.zero (widen x))) 4602678819172646912)) 4618760256179416344)))), (8, (.float .f64 4607182418800017408)), (9, (.int .i64 8))] [] (lk c_impl_SineTurns 19 Try.f136 [] K))
                  (LoopE c_impl_SineTurns ⟨[5, 6, 7, 8, 9], 0, false⟩ (lb c_impl_SineTurns 19 Try.f136) [(5, (.bool (fge FloatKind.f64 (fsub FloatKind.f64 (widen x) (fwhole Ieee.Toward.zero (widen x))) 4602678819172646912))), (6, (.float .f64 (fmul FloatKind.f64 (fsub FloatKind.f64 (fsub FloatKind.f64 (widen x) (fwhole Ieee.Toward.zero (widen x))) 4602678819172646912) 4618760256179416344))), (7, (.float .f64 (fmul FloatKind.f64 (fmul FloatKind.f64 (fsub FloatKind.f64 (fsub FloatKind.f64 (widen x) (fwhole Ieee.Toward.zero (widen x))) 4602678819172646912) 4618760256179416344) (fmul FloatKind.f64 (fsub FloatKind.f64 (fsub FloatKind.f64 (widen x) (fwhole Ieee.Toward.zero (widen x))) 4602678819172646912) 4618760256179416344)))), (8, (.float .f64 4607182418800017408)), (9, (.int .i64 8))] [] (lk c_impl_SineTurns 19 Try.f136 [] K)))
                (cond (fgt FloatKind.f64 (fsub FloatKind.f64 (widen x) (fwhole Ieee.Toward.zero (widen x))) 4598175219545276416)
                  (LoopE c_impl_SineTurns ⟨[5, 6, 7, 8, 9], 0, false⟩ (lb c_impl_SineTurns 19 Try.f136) [(5, (.bool (fge FloatKind.f64 (fsub FloatKind.f64 (widen x) (fwhole Ieee.Toward.zero (widen x))) 4602678819172646912))), (6, (.float .f64 (fmul FloatKind.f64 (fsub FloatKind.f64 4602678819172646912 (fsub FloatKind.f64 (widen x) (fwhole Ieee.Toward.zero (widen x)))) 4618760256179416344))), (7, (.float .f64 (fmul FloatKind.f64 (fmul FloatKind.f64 (fsub FloatKind.f64 4602678819172646912 (fsub FloatKind.f64 (widen x) (fwhole Ieee.Toward.zero (widen x)))) 4618760256179416344) (fmul FloatKind.f64 (fsub FloatKind.f64 4602678819172646912 (fsub FloatKind.f64 (widen x) (fwhole Ieee.Toward.zero (widen x)))) 4618760256179416344)))), (8, (.float .f64 4607182418800017408)), (9, (.int .i64 8))] [] (lk c_impl_SineTurns 19 Try.f136 [] K))
                  (LoopE c_impl_SineTurns ⟨[5, 6, 7, 8, 9], 0, false⟩ (lb c_impl_SineTurns 19 Try.f136) [(5, (.bool (fge FloatKind.f64 (fsub FloatKind.f64 (widen x) (fwhole Ieee.Toward.zero (widen x))) 4602678819172646912))), (6, (.float .f64 (fmul FloatKind.f64 (fsub FloatKind.f64 (widen x) (fwhole Ieee.Toward.zero (widen x))) 4618760256179416344))), (7, (.float .f64 (fmul FloatKind.f64 (fmul FloatKind.f64 (fsub FloatKind.f64 (widen x) (fwhole Ieee.Toward.zero (widen x))) 4618760256179416344) (fmul FloatKind.f64 (fsub FloatKind.f64 (widen x) (fwhole Ieee.Toward.zero (widen x))) 4618760256179416344)))), (8, (.float .f64 4607182418800017408)), (9, (.int .i64 8))] [] (lk c_impl_SineTurns 19 Try.f136 [] K)))))
            (cond (flt FloatKind.f64 (widen x) 0)
              (cond (fge FloatKind.f64 (fadd FloatKind.f64 (widen x) 4607182418800017408) 4602678819172646912)
                (cond (fgt FloatKind.f64 (fsub FloatKind.f64 (fadd FloatKind.f64 (widen x) 4607182418800017408) 4602678819172646912) 4598175219545276416)
                  (LoopE c_impl_SineTurns ⟨[5, 6, 7, 8, 9], 0, false⟩ (lb c_impl_SineTurns 19 Try.f136) [(5, (.bool (fge FloatKind.f64 (fadd FloatKind.f64 (widen x) 4607182418800017408) 4602678819172646912))), (6, (.float .f64 (fmul FloatKind.f64 (fsub FloatKind.f64 4602678819172646912 (fsub FloatKind.f64 (fadd FloatKind.f64 (widen x) 4607182418800017408) 4602678819172646912)) 4618760256179416344))), (7, (.float .f64 (fmul FloatKind.f64 (fmul FloatKind.f64 (fsub FloatKind.f64 4602678819172646912 (fsub FloatKind.f64 (fadd FloatKind.f64 (widen x) 4607182418800017408) 4602678819172646912)) 4618760256179416344) (fmul FloatKind.f64 (fsub FloatKind.f64 4602678819172646912 (fsub FloatKind.f64 (fadd FloatKind.f64 (widen x) 4607182418800017408) 4602678819172646912)) 4618760256179416344)))), (8, (.float .f64 4607182418800017408)), (9, (.int .i64 8))] [] (lk c_impl_SineTurns 19 Try.f136 [] K))
                  (LoopE c_impl_SineTurns ⟨[5, 6, 7, 8, 9], 0, false⟩ (lb c_impl_SineTurns 19 Try.f136) [(5, (.bool (fge FloatKind.f64 (fadd FloatKind.f64 (widen x) 4607182418800017408) 4602678819172646912))), (6, (.float .f64 (fmul FloatKind.f64 (fsub FloatKind.f64 (fadd FloatKind.f64 (widen x) 4607182418800017408) 4602678819172646912) 4618760256179416344))), (7, (.float .f64 (fmul FloatKind.f64 (fmul FloatKind.f64 (fsub FloatKind.f64 (fadd FloatKind.f64 (widen x) 4607182418800017408) 4602678819172646912) 4618760256179416344) (fmul FloatKind.f64 (fsub FloatKind.f64 (fadd FloatKind.f64 (widen x) 4607182418800017408) 4602678819172646912) 4618760256179416344)))), (8, (.float .f64 4607182418800017408)), (9, (.int .i64 8))] [] (lk c_impl_SineTurns 19 Try.f136 [] K)))
                (cond (fgt FloatKind.f64 (fadd FloatKind.f64 (widen x) 4607182418800017408) 4598175219545276416)
                  (LoopE c_impl_SineTurns ⟨[5, 6, 7, 8, 9], 0, false⟩ (lb c_impl_SineTurns 19 Try.f136) [(5, (.bool (fge FloatKind.f64 (fadd FloatKind.f64 (widen x) 4607182418800017408) 4602678819172646912))), (6, (.float .f64 (fmul FloatKind.f64 (fsub FloatKind.f64 4602678819172646912 (fadd FloatKind.f64 (widen x) 4607182418800017408)) 4618760256179416344))), (7, (.float .f64 (fmul FloatKind.f64 (fmul FloatKind.f64 (fsub FloatKind.f64 4602678819172646912 (fadd FloatKind.f64 (widen x) 4607182418800017408)) 4618760256179416344) (fmul FloatKind.f64 (fsub FloatKind.f64 4602678819172646912 (fadd FloatKind.f64 (widen x) 4607182418800017408)) 4618760256179416344)))), (8, (.float .f64 4607182418800017408)), (9, (.int .i64 8))] [] (lk c_impl_SineTurns 19 Try.f136 [] K))
                  (LoopE c_impl_SineTurns ⟨[5, 6, 7, 8, 9], 0, false⟩ (lb c_impl_SineTurns 19 Try.f136) [(5, (.bool (fge FloatKind.f64 (fadd FloatKind.f64 (widen x) 4607182418800017408) 4602678819172646912))), (6, (.float .f64 (fmul FloatKind.f64 (fadd FloatKind.f64 (widen x) 4607182418800017408) 4618760256179416344))), (7, (.float .f64 (fmul FloatKind.f64 (fmul FloatKind.f64 (fadd FloatKind.f64 (widen x) 4607182418800017408) 4618760256179416344) (fmul FloatKind.f64 (fadd FloatKind.f64 (widen x) 4607182418800017408) 4618760256179416344)))), (8, (.float .f64 4607182418800017408)), (9, (.int .i64 8))] [] (lk c_impl_SineTurns 19 Try.f136 [] K))))
              (cond (fge FloatKind.f64 (widen x) 4602678819172646912)
                (cond (fgt FloatKind.f64 (fsub FloatKind.f64 (widen x) 4602678819172646912) 4598175219545276416)
                  (LoopE c_impl_SineTurns ⟨[5, 6, 7, 8, 9], 0, false⟩ (lb c_impl_SineTurns 19 Try.f136) [(5, (.bool (fge FloatKind.f64 (widen x) 4602678819172646912))), (6, (.float .f64 (fmul FloatKind.f64 (fsub FloatKind.f64 4602678819172646912 (fsub FloatKind.f64 (widen x) 4602678819172646912)) 4618760256179416344))), (7, (.float .f64 (fmul FloatKind.f64 (fmul FloatKind.f64 (fsub FloatKind.f64 4602678819172646912 (fsub FloatKind.f64 (widen x) 4602678819172646912)) 4618760256179416344) (fmul FloatKind.f64 (fsub FloatKind.f64 4602678819172646912 (fsub FloatKind.f64 (widen x) 4602678819172646912)) 4618760256179416344)))), (8, (.float .f64 4607182418800017408)), (9, (.int .i64 8))] [] (lk c_impl_SineTurns 19 Try.f136 [] K))
                  (LoopE c_impl_SineTurns ⟨[5, 6, 7, 8, 9], 0, false⟩ (lb c_impl_SineTurns 19 Try.f136) [(5, (.bool (fge FloatKind.f64 (widen x) 4602678819172646912))), (6, (.float .f64 (fmul FloatKind.f64 (fsub FloatKind.f64 (widen x) 4602678819172646912) 4618760256179416344))), (7, (.float .f64 (fmul FloatKind.f64 (fmul FloatKind.f64 (fsub FloatKind.f64 (widen x) 4602678819172646912) 4618760256179416344) (fmul FloatKind.f64 (fsub FloatKind.f64 (widen x) 4602678819172646912) 4618760256179416344)))), (8, (.float .f64 4607182418800017408)), (9, (.int .i64 8))] [] (lk c_impl_SineTurns 19 Try.f136 [] K)))
                (cond (fgt FloatKind.f64 (widen x) 4598175219545276416)
                  (LoopE c_impl_SineTurns ⟨[5, 6, 7, 8, 9], 0, false⟩ (lb c_impl_SineTurns 19 Try.f136) [(5, (.bool (fge FloatKind.f64 (widen x) 4602678819172646912))), (6, (.float .f64 (fmul FloatKind.f64 (fsub FloatKind.f64 4602678819172646912 (widen x)) 4618760256179416344))), (7, (.float .f64 (fmul FloatKind.f64 (fmul FloatKind.f64 (fsub FloatKind.f64 4602678819172646912 (widen x)) 4618760256179416344) (fmul FloatKind.f64 (fsub FloatKind.f64 4602678819172646912 (widen x)) 4618760256179416344)))), (8, (.float .f64 4607182418800017408)), (9, (.int .i64 8))] [] (lk c_impl_SineTurns 19 Try.f136 [] K))
                  (LoopE c_impl_SineTurns ⟨[5, 6, 7, 8, 9], 0, false⟩ (lb c_impl_SineTurns 19 Try.f136) [(5, (.bool (fge FloatKind.f64 (widen x) 4602678819172646912))), (6, (.float .f64 (fmul FloatKind.f64 (widen x) 4618760256179416344))), (7, (.float .f64 (fmul FloatKind.f64 (fmul FloatKind.f64 (widen x) 4618760256179416344) (fmul FloatKind.f64 (widen x) 4618760256179416344)))), (8, (.float .f64 4607182418800017408)), (9, (.int .i64 8))] [] (lk c_impl_SineTurns 19 Try.f136 [] K))))))
          (False)))
      (False)) := by kernel_rfl
noncomputable def s_impl_SineTurns : Sm := semG [.cell tF] (fun x => match x with | (x, _) => sineOk x) fun x => match x with | (x, _) => .float .f32 (sineF x)
theorem ok_impl_SineTurns : FnOk Try.prog 136 s_impl_SineTurns := fnOk_typedG (fnOk_runC (C := c_impl_SineTurns) rfl mixed (.cons ok_impl_IsFinite (.cons ok_math_NaN (.cons ok_math_Abs (.cons ok_math_Trunc .nil)))) .nil .nil Try.func136 (by kernel_rfl)) fun (x : ((Nat) × Unit)) wf hg K h => by
  obtain ⟨x, ⟨⟩⟩ := x
  replace hg : (sineOk x) = true := hg
  replace h : K (.float .f32 (sineF x)) [] := h
  rw [w_impl_SineTurns x K]
  obtain ⟨g1, g2, g3, g4, hov⟩ := sinOk_trunc hg wf.1.1
  have g3 : fge .f64 (absW (widen x)) 4841369599423283200 = false := g3
  have g4 : finN x = true := by rw [finN_fin wf.1.1]; exact g4
  simp only [g1, g2, g3, g4, Bool.not_true, Bool.not_false, cond_true, cond_false]
  replace h : K (.float .f32 (narrow (sine64 x))) [] := h
  have loop : ∀ (w : Nat) (tb : Bool), (sine64 x = bif tb then fneg .f64 (sinO w) else sinO w) → LoopE c_impl_SineTurns ⟨[5, 6, 7, 8, 9], 0, false⟩ (lb c_impl_SineTurns 19 Try.f136) (fr_impl_SineTurns_19 0 (fmul .f64 w 4618760256179416344) (fmul .f64 (fmul .f64 w 4618760256179416344) (fmul .f64 w 4618760256179416344)) 4607182418800017408 tb 8) [] (lk c_impl_SineTurns 19 Try.f136 [] K) := by
    intro w tb hs
    rw [hs] at h hov
    generalize hz : fmul .f64 w 4618760256179416344 = z
    refine loop_run (σ := Nat) (fun j => fr_impl_SineTurns_19 0 z (fmul .f64 z z) (sinP (fmul .f64 z z) j) tb (8 - (j : Int))) (fun _ => []) (fun j => j ≤ 8) (fun j => 8 - j) ?_ 0 (Nat.zero_le _)
    intro j hj Kn hk
    rw [r_impl_SineTurns_19 0 z (fmul .f64 z z) (sinP (fmul .f64 z z) j) tb (8 - (j : Int)) Kn K]
    by_cases hlt : j < 8
    · have b1 : 2 * (8 - (j : Int)) * (2 * (8 - (j : Int)) + 1) ≤ 16 * 17 := Int.mul_le_mul (by omega) (by omega) (by omega) (by omega)
      have b2 : 0 ≤ 2 * (8 - (j : Int)) * (2 * (8 - (j : Int)) + 1) := Int.mul_nonneg (by omega) (by omega)
      rw [d_t (show (8 : Int) - (j : Int) ≥ 1 by omega), i64_of (n := 2 * (8 - (j : Int))) (by omega) (by omega), i64_of (n := 2 * (8 - (j : Int)) + 1) (by omega) (by omega), i64_of (n := 2 * (8 - (j : Int)) * (2 * (8 - (j : Int)) + 1)) (by omega) (by omega), i64_of (n := 8 - (j : Int) - 1) (by omega) (by omega)]
      have := hk (j + 1) hlt (by omega)
      rw [show (8 : Int) - ((j + 1 : Nat) : Int) = 8 - (j : Int) - 1 by omega] at this
      exact this
    · have : j = 8 := by omega
      subst this
      rw [d_f (show ¬ (8 : Int) - ((8 : Nat) : Int) ≥ 1 by decide)]
      subst hz
      cases tb <;> simp only [cond_true, cond_false] at hov h ⊢ <;> exact cond_of hov h
  cases c1 : flt .f64 (widen x) 0
  · cases c2 : fge .f64 (widen x) 4602678819172646912
    · cases c3 : fgt .f64 (widen x) 4598175219545276416 <;> exact loop _ _ (by unfold sine64; simp only [c1, c2, c3, cond_true, cond_false])
    · cases c3 : fgt .f64 (fsub .f64 (widen x) 4602678819172646912) 4598175219545276416 <;> exact loop _ _ (by unfold sine64; simp only [c1, c2, c3, cond_true, cond_false])
  · cases c2 : fge .f64 (fadd .f64 (widen x) 4607182418800017408) 4602678819172646912
    · cases c3 : fgt .f64 (fadd .f64 (widen x) 4607182418800017408) 4598175219545276416 <;> exact loop _ _ (by unfold sine64; simp only [c1, c2, c3, cond_true, cond_false])
    · cases c3 : fgt .f64 (fsub .f64 (fadd .f64 (widen x) 4607182418800017408) 4602678819172646912) 4598175219545276416 <;> exact loop _ _ (by unfold sine64; simp only [c1, c2, c3, cond_true, cond_false])

/-! rounding to a whole number -/
--B rintV Nat → Nat
def rintV (x : Nat) : Nat := narrow (fwhole .even (widen x))
/-! impl.nearest -/
noncomputable def c_impl_nearest : Ctx := mkC Try.prog tyT [(179, s_math_RoundToEven)] [] [] 7 (fun _ => none) 0
theorem w_impl_nearest (x : Nat) (K : V → Heap → Prop) : wpFn c_impl_nearest Try.f163 (encAs [.cell tF] (x, ())) [] K =
  cond (ovf (fwhole Ieee.Toward.even (widen x)))
    (K .undef [])
    (K (.float .f32 (narrow (fwhole Ieee.Toward.even (widen x)))) []) := by kernel_rfl
noncomputable def s_impl_nearest : Sm := semT [.cell tF] fun x => match x with | (x, _) => .float .f32 (rintV x)
theorem ok_impl_nearest : FnOk Try.prog 163 s_impl_nearest := fnOk_typed (fnOk_runC (C := c_impl_nearest) rfl mixed (.cons ok_math_RoundToEven .nil) .nil .nil Try.func163 (by kernel_rfl)) fun (x : ((Nat) × Unit)) wf K h => by
  obtain ⟨x, ⟨⟩⟩ := x
  replace h : K (.float .f32 (rintV x)) [] := h
  rw [w_impl_nearest x K]
  exact cond_of (even_ovf wf.1.1 wf.1.2) h

/-! vectors -/
--B addV Nat × Nat × Nat → Nat × Nat × Nat → Nat × Nat × Nat
def addV (a b : V3) : V3 := (fadd .f32 a.1 b.1, fadd .f32 a.2.1 b.2.1, fadd .f32 a.2.2 b.2.2)
--B subV Nat × Nat × Nat → Nat × Nat × Nat → Nat × Nat × Nat
def subV (a b : V3) : V3 := (fsub .f32 a.1 b.1, fsub .f32 a.2.1 b.2.1, fsub .f32 a.2.2 b.2.2)
--B scaleV Nat × Nat × Nat → Nat → Nat × Nat × Nat
def scaleV (a : V3) (n : Nat) : V3 := (fmul .f32 a.1 n, fmul .f32 a.2.1 n, fmul .f32 a.2.2 n)
--B innerV Nat × Nat × Nat → Nat × Nat × Nat → Nat
def innerV (a b : V3) : Nat := fadd .f32 (fadd .f32 (fmul .f32 a.1 b.1) (fmul .f32 a.2.1 b.2.1)) (fmul .f32 a.2.2 b.2.2)
--B rootV Nat → Nat
def rootV (x : Nat) : Nat := rootN x
--B longV Nat × Nat × Nat → Nat
def longV (a : V3) : Nat := rootV (innerV a a)
/-! impl.AddVectors -/
/-! impl.LessVectors -/
noncomputable def c_impl_LessVectors : Ctx := mkC Try.prog tyT [] [] [] 21 (fun _ => none) 0
theorem w_impl_LessVectors (a b : V3) (K : V → Heap → Prop) : wpFn c_impl_LessVectors Try.f39 (encAs [.agg tV, .agg tV] (a, b, ())) [] K =
  K (.agg [(.float .f32 (fsub FloatKind.f32 (Prod.fst a) (Prod.fst b))), (.float .f32 (fsub FloatKind.f32 (Prod.fst (Prod.snd a)) (Prod.fst (Prod.snd b)))), (.float .f32 (fsub FloatKind.f32 (Prod.snd (Prod.snd a)) (Prod.snd (Prod.snd b))))]) [] := by kernel_rfl
noncomputable def s_impl_LessVectors : Sm := semT [.agg tV, .agg tV] fun x => match x with | (a, b, _) => .agg (enc tV (subV a b))
theorem ok_impl_LessVectors : FnOk Try.prog 39 s_impl_LessVectors := fnOk_typed (fnOk_runC (C := c_impl_LessVectors) rfl mixed .nil .nil .nil Try.func39 (by kernel_rfl)) fun (x : ((V3) × (V3) × Unit)) wf K h => by
  obtain ⟨a, b, ⟨⟩⟩ := x
  replace h : K (.agg (enc tV (subV a b))) [] := h
  rw [w_impl_LessVectors a b K]
  exact h

/-! impl.ScaleVector -/
/-! impl.InnerOf -/
noncomputable def c_impl_InnerOf : Ctx := mkC Try.prog tyT [] [] [] 22 (fun _ => none) 0
theorem w_impl_InnerOf (a b : V3) (K : V → Heap → Prop) : wpFn c_impl_InnerOf Try.f123 (encAs [.agg tV, .agg tV] (a, b, ())) [] K =
  K (.float .f32 (fadd FloatKind.f32 (fadd FloatKind.f32 (fmul FloatKind.f32 (Prod.fst a) (Prod.fst b)) (fmul FloatKind.f32 (Prod.fst (Prod.snd a)) (Prod.fst (Prod.snd b)))) (fmul FloatKind.f32 (Prod.snd (Prod.snd a)) (Prod.snd (Prod.snd b))))) [] := by kernel_rfl
noncomputable def s_impl_InnerOf : Sm := semT [.agg tV, .agg tV] fun x => match x with | (a, b, _) => .float .f32 (innerV a b)
theorem ok_impl_InnerOf : FnOk Try.prog 123 s_impl_InnerOf := fnOk_typed (fnOk_runC (C := c_impl_InnerOf) rfl mixed .nil .nil .nil Try.func123 (by kernel_rfl)) fun (x : ((V3) × (V3) × Unit)) wf K h => by
  obtain ⟨a, b, ⟨⟩⟩ := x
  replace h : K (.float .f32 (innerV a b)) [] := h
  rw [w_impl_InnerOf a b K]
  exact h

/-! math.Sqrt -/
noncomputable def c_math_Sqrt : Ctx := mkC Try.prog tyT [(172, s_math_sqrt)] [] [] 5 (fun _ => none) 0
theorem w_math_Sqrt (x : Nat) (K : V → Heap → Prop) : wpFn c_math_Sqrt Try.f154 (encAs [.cell (.float .f64)] (x, ())) [] K =
  K (.float .f64 (fsqrt FloatKind.f64 x)) [] := by kernel_rfl
noncomputable def s_math_Sqrt : Sm := semT [.cell (.float .f64)] fun x => match x with | (x, _) => .float .f64 (fsqrt .f64 x)
theorem ok_math_Sqrt : FnOk Try.prog 154 s_math_Sqrt := fnOk_typed (fnOk_runC (C := c_math_Sqrt) rfl mixed (.cons ok_math_sqrt .nil) .nil .nil Try.func154 (by kernel_rfl)) fun (x : ((Nat) × Unit)) wf K h => by
  obtain ⟨x, ⟨⟩⟩ := x
  replace h : K (.float .f64 (fsqrt .f64 x)) [] := h
  rw [w_math_Sqrt x K]
  exact h

/-! impl.RootNumber -/
noncomputable def c_impl_RootNumber : Ctx := mkC Try.prog tyT [(154, s_math_Sqrt)] [] [] 7 (fun _ => none) 0
theorem w_impl_RootNumber (x : Nat) (K : V → Heap → Prop) : wpFn c_impl_RootNumber Try.f122 (encAs [.cell tF] (x, ())) [] K =
  cond (ovf (fsqrt FloatKind.f64 (widen x)))
    (K .undef [])
    (K (.float .f32 (narrow (fsqrt FloatKind.f64 (widen x)))) []) := by kernel_rfl
noncomputable def s_impl_RootNumber : Sm := semT [.cell tF] fun x => match x with | (x, _) => .float .f32 (rootV x)
theorem ok_impl_RootNumber : FnOk Try.prog 122 s_impl_RootNumber := fnOk_typed (fnOk_runC (C := c_impl_RootNumber) rfl mixed (.cons ok_math_Sqrt .nil) .nil .nil Try.func122 (by kernel_rfl)) fun (x : ((Nat) × Unit)) wf K h => by
  obtain ⟨x, ⟨⟩⟩ := x
  replace h : K (.float .f32 (rootV x)) [] := h
  rw [w_impl_RootNumber x K]
  rw [root_ovf wf.1.1 wf.1.2]
  exact h

/-! impl.LongOf -/
noncomputable def c_impl_LongOf : Ctx := mkC Try.prog tyT [(123, s_impl_InnerOf), (122, s_impl_RootNumber)] [] [] 7 (fun _ => none) 0
theorem w_impl_LongOf (a : V3) (K : V → Heap → Prop) : wpFn c_impl_LongOf Try.f61 (encAs [.agg tV] (a, ())) [] K =
  K (.float .f32 (rootV (innerV a a))) [] := by kernel_rfl
noncomputable def s_impl_LongOf : Sm := semT [.agg tV] fun x => match x with | (a, _) => .float .f32 (longV a)
theorem ok_impl_LongOf : FnOk Try.prog 61 s_impl_LongOf := fnOk_typed (fnOk_runC (C := c_impl_LongOf) rfl mixed (.cons ok_impl_InnerOf (.cons ok_impl_RootNumber .nil)) .nil .nil Try.func61 (by kernel_rfl)) fun (x : ((V3) × Unit)) wf K h => by
  obtain ⟨a, ⟨⟩⟩ := x
  replace h : K (.float .f32 (longV a)) [] := h
  rw [w_impl_LongOf a K]
  exact h

end Go.Proofs.Ytfhpmcdbfebflaa

/- Distances of shapes: walks. -/
set_option linter.unusedVariables false
set_option linter.unusedSimpArgs false
set_option maxRecDepth 100000
namespace Go.Proofs.Ytfhpmcdbfebflaa
open Go.Ev Go.Ev.Fl

--B lsV Nat → Nat → Nat
def lsV (x y : Nat) : Nat := bif flt .f32 y x then y else x
--B grV Nat → Nat → Nat
def grV (x y : Nat) : Nat := bif fgt .f32 y x then y else x
--B absV Nat → Nat
def absV (x : Nat) : Nat := bif flt .f32 x 0 then fneg .f32 x else x
--B shoV Nat → Nat → Nat
def shoV (y d : Nat) : Nat := fsub .f32 y (lsV (grV 0 y) d)
--B bulV Nat → Nat → Nat
def bulV (x k : Nat) : Nat := bif fgt .f32 x 0 then fdiv .f32 (fmul .f32 x x) (fmul .f32 1082130432 k) else 0
--B foldV Nat → Nat → Nat
def foldV (c s : Nat) : Nat := fmul .f32 (fmul .f32 1073741824 s) (rintV (fdiv .f32 c (fmul .f32 1073741824 s)))
def nt (xs : List Nat) (i : Nat) : Nat := (xs[i]?).getD 0
def boxN (xs : List Nat) (p : V3) : Nat :=
  fadd .f32 (longV (grV 0 (fsub .f32 (absV p.1) (nt xs 0)), grV 0 (fsub .f32 (absV p.2.1) (nt xs 1)), grV 0 (fsub .f32 (absV p.2.2) (nt xs 2))))
    (lsV 0 (grV (grV (fsub .f32 (absV p.1) (nt xs 0)) (fsub .f32 (absV p.2.1) (nt xs 1))) (fsub .f32 (absV p.2.2) (nt xs 2))))
--B leafV Int → List Nat → Nat × Nat × Nat → Nat
def leafV (k : Int) (xs : List Nat) (p : V3) : Nat :=
  bif k == 0 then fsub .f32 (longV p) (nt xs 0) else
  bif k == 1 then boxN xs p else
  bif k == 2 then fsub .f32 (longV (p.1, shoV p.2.1 (nt xs 0), p.2.2)) (nt xs 1) else
  bif k == 3 then fsub .f32 (longV (fsub .f32 (longV (p.1, 0, p.2.2)) (nt xs 0), p.2.1, 0)) (nt xs 1) else
  fsub .f32 (innerV p (nt xs 0, nt xs 1, nt xs 2)) (nt xs 3)
def smoN (r x y : Nat) : Nat := bif fgt .f32 (fsub .f32 r (absV (fsub .f32 x y))) 0 then fsub .f32 (lsV x y) (bulV (fsub .f32 r (absV (fsub .f32 x y))) r) else lsV x y
--B mixV Int → List Nat → Nat → Nat → Nat
def mixV (k : Int) (xs : List Nat) (x y : Nat) : Nat :=
  bif k == 5 then lsV x y else bif k == 6 then grV x y else bif k == 7 then grV x (fneg .f32 y) else bif k == 8 then smoN (nt xs 0) x y else
  bif k == 10 then fmul .f32 x (nt xs 0) else bif k == 15 then fsub .f32 x (nt xs 0) else bif k == 16 then fsub .f32 (absV x) (nt xs 0) else x
def c3 (p : V3) (i : Int) : Nat := bif i == 0 then p.1 else bif i == 1 then p.2.1 else p.2.2
def set3 (p : V3) (i : Int) (x : Nat) : V3 := bif i == 0 then (x, p.2.1, p.2.2) else bif i == 1 then (p.1, x, p.2.2) else (p.1, p.2.1, x)
def turnN (a : Int) (v : Nat) (p : V3) : V3 :=
  set3 (set3 p ((a + 1) % 3) (fadd .f32 (fmul .f32 (sineF (fsub .f32 1048576000 v)) (c3 p ((a + 1) % 3))) (fmul .f32 (sineF v) (c3 p ((a + 2) % 3)))))
    ((a + 2) % 3) (fsub .f32 (fmul .f32 (sineF (fsub .f32 1048576000 v)) (c3 p ((a + 2) % 3))) (fmul .f32 (sineF v) (c3 p ((a + 1) % 3))))
--B pointN Int → Int → List Nat → Nat × Nat × Nat → Nat × Nat × Nat
def pointN (k a : Int) (xs : List Nat) (p : V3) : V3 :=
  bif k == 9 then subV p (nt xs 0, nt xs 1, nt xs 2) else
  bif k == 10 then (fdiv .f32 p.1 (nt xs 0), fdiv .f32 p.2.1 (nt xs 0), fdiv .f32 p.2.2 (nt xs 0)) else
  bif k == 11 then (fdiv .f32 p.1 (nt xs 0), fdiv .f32 p.2.1 (nt xs 1), fdiv .f32 p.2.2 (nt xs 2)) else
  bif k == 12 then turnN a (nt xs 0) p else
  bif k == 13 then set3 p a (absV (c3 p a)) else
  bif k == 14 then set3 p a (absV (fsub .f32 (c3 p a) (foldV (c3 p a) (nt xs 0)))) else p
/-- The numbers of a turn are small. -/
--B turnB Int → List Nat → Bool
def turnB (k : Int) (xs : List Nat) : Bool := !(k == 12) || (sineOk (nt xs 0) && sineOk (fsub .f32 1048576000 (nt xs 0)))

/-! impl.lesser -/
noncomputable def c_impl_lesser : Ctx := mkC Try.prog tyT [] [] [] 10 (fun _ => none) 0
theorem w_impl_lesser (x y : Nat) (K : V → Heap → Prop) : wpFn c_impl_lesser Try.f111 (encAs [.cell tF, .cell tF] (x, y, ())) [] K =
  cond (flt FloatKind.f32 y x)
    (K (.float .f32 (y)) [])
    (K (.float .f32 (x)) []) := by kernel_rfl
noncomputable def s_impl_lesser : Sm := semT [.cell tF, .cell tF] fun x => match x with | (x, y, _) => .float .f32 (lsV x y)
theorem ok_impl_lesser : FnOk Try.prog 111 s_impl_lesser := fnOk_typed (fnOk_runC (C := c_impl_lesser) rfl mixed .nil .nil .nil Try.func111 (by kernel_rfl)) fun (x : ((Nat) × (Nat) × Unit)) wf K h => by
  obtain ⟨x, y, ⟨⟩⟩ := x
  replace h : K (.float .f32 (lsV x y)) [] := h
  rw [w_impl_lesser x y K]
  revert h
  unfold lsV
  cases flt .f32 y x <;> exact id

/-! impl.greater -/
noncomputable def c_impl_greater : Ctx := mkC Try.prog tyT [] [] [] 10 (fun _ => none) 0
theorem w_impl_greater (x y : Nat) (K : V → Heap → Prop) : wpFn c_impl_greater Try.f164 (encAs [.cell tF, .cell tF] (x, y, ())) [] K =
  cond (fgt FloatKind.f32 y x)
    (K (.float .f32 (y)) [])
    (K (.float .f32 (x)) []) := by kernel_rfl
noncomputable def s_impl_greater : Sm := semT [.cell tF, .cell tF] fun x => match x with | (x, y, _) => .float .f32 (grV x y)
theorem ok_impl_greater : FnOk Try.prog 164 s_impl_greater := fnOk_typed (fnOk_runC (C := c_impl_greater) rfl mixed .nil .nil .nil Try.func164 (by kernel_rfl)) fun (x : ((Nat) × (Nat) × Unit)) wf K h => by
  obtain ⟨x, y, ⟨⟩⟩ := x
  replace h : K (.float .f32 (grV x y)) [] := h
  rw [w_impl_greater x y K]
  revert h
  unfold grV
  cases fgt .f32 y x <;> exact id

/-! impl.sizeOf -/
noncomputable def c_impl_sizeOf : Ctx := mkC Try.prog tyT [] [] [] 8 (fun _ => none) 0
theorem w_impl_sizeOf (x : Nat) (K : V → Heap → Prop) : wpFn c_impl_sizeOf Try.f118 (encAs [.cell tF] (x, ())) [] K =
  cond (flt FloatKind.f32 x 0)
    (K (.float .f32 (fneg FloatKind.f32 x)) [])
    (K (.float .f32 (x)) []) := by kernel_rfl
noncomputable def s_impl_sizeOf : Sm := semT [.cell tF] fun x => match x with | (x, _) => .float .f32 (absV x)
theorem ok_impl_sizeOf : FnOk Try.prog 118 s_impl_sizeOf := fnOk_typed (fnOk_runC (C := c_impl_sizeOf) rfl mixed .nil .nil .nil Try.func118 (by kernel_rfl)) fun (x : ((Nat) × Unit)) wf K h => by
  obtain ⟨x, ⟨⟩⟩ := x
  replace h : K (.float .f32 (absV x)) [] := h
  rw [w_impl_sizeOf x K]
  revert h
  unfold absV
  cases flt .f32 x 0 <;> exact id

/-! impl.shortened -/
noncomputable def c_impl_shortened : Ctx := mkC Try.prog tyT [(111, s_impl_lesser), (164, s_impl_greater)] [] [] 11 (fun _ => none) 0
theorem w_impl_shortened (y d : Nat) (K : V → Heap → Prop) : wpFn c_impl_shortened Try.f165 (encAs [.cell tF, .cell tF] (y, d, ())) [] K =
  K (.float .f32 (fsub FloatKind.f32 y (lsV (grV 0 y) d))) [] := by kernel_rfl
noncomputable def s_impl_shortened : Sm := semT [.cell tF, .cell tF] fun x => match x with | (y, d, _) => .float .f32 (shoV y d)
theorem ok_impl_shortened : FnOk Try.prog 165 s_impl_shortened := fnOk_typed (fnOk_runC (C := c_impl_shortened) rfl mixed (.cons ok_impl_lesser (.cons ok_impl_greater .nil)) .nil .nil Try.func165 (by kernel_rfl)) fun (x : ((Nat) × (Nat) × Unit)) wf K h => by
  obtain ⟨y, d, ⟨⟩⟩ := x
  replace h : K (.float .f32 (shoV y d)) [] := h
  rw [w_impl_shortened y d K]
  exact h

/-! impl.bulge -/
noncomputable def c_impl_bulge : Ctx := mkC Try.prog tyT [] [] [] 13 (fun _ => none) 0
theorem w_impl_bulge (x k : Nat) (K : V → Heap → Prop) : wpFn c_impl_bulge Try.f166 (encAs [.cell tF, .cell tF] (x, k, ())) [] K =
  cond (fgt FloatKind.f32 x 0)
    (K (.float .f32 (fdiv FloatKind.f32 (fmul FloatKind.f32 x x) (fmul FloatKind.f32 1082130432 k))) [])
    (K (.float .f32 0) []) := by kernel_rfl
noncomputable def s_impl_bulge : Sm := semT [.cell tF, .cell tF] fun x => match x with | (x, k, _) => .float .f32 (bulV x k)
theorem ok_impl_bulge : FnOk Try.prog 166 s_impl_bulge := fnOk_typed (fnOk_runC (C := c_impl_bulge) rfl mixed .nil .nil .nil Try.func166 (by kernel_rfl)) fun (x : ((Nat) × (Nat) × Unit)) wf K h => by
  obtain ⟨x, k, ⟨⟩⟩ := x
  replace h : K (.float .f32 (bulV x k)) [] := h
  rw [w_impl_bulge x k K]
  revert h
  unfold bulV
  cases fgt .f32 x 0 <;> exact id

/-! impl.foldOf -/
noncomputable def c_impl_foldOf : Ctx := mkC Try.prog tyT [(163, s_impl_nearest)] [] [] 13 (fun _ => none) 0
theorem w_impl_foldOf (x s : Nat) (K : V → Heap → Prop) : wpFn c_impl_foldOf Try.f137 (encAs [.cell tF, .cell tF] (x, s, ())) [] K =
  K (.float .f32 (fmul FloatKind.f32 (fmul FloatKind.f32 1073741824 s) (rintV (fdiv FloatKind.f32 x (fmul FloatKind.f32 1073741824 s))))) [] := by kernel_rfl
noncomputable def s_impl_foldOf : Sm := semT [.cell tF, .cell tF] fun x => match x with | (x, s, _) => .float .f32 (foldV x s)
theorem ok_impl_foldOf : FnOk Try.prog 137 s_impl_foldOf := fnOk_typed (fnOk_runC (C := c_impl_foldOf) rfl mixed (.cons ok_impl_nearest .nil) .nil .nil Try.func137 (by kernel_rfl)) fun (x : ((Nat) × (Nat) × Unit)) wf K h => by
  obtain ⟨x, s, ⟨⟩⟩ := x
  replace h : K (.float .f32 (foldV x s)) [] := h
  rw [w_impl_foldOf x s K]
  exact h

/-! impl.coordinates -/
noncomputable def c_impl_coordinates : Ctx := mkC Try.prog tyT [] [] [] 10 (fun _ => none) 0
theorem w_impl_coordinates (u v w : Nat) (K : V → Heap → Prop) : wpFn c_impl_coordinates Try.f135 (encAs [.agg tV] ((u, v, w), ())) [] K =
  K (.agg [(.float .f32 (u)), (.float .f32 (v)), (.float .f32 (w))]) [] := by kernel_rfl
noncomputable def s_impl_coordinates : Sm := semT [.agg tV] fun x => match x with | ((u, v, w), _) => .agg [.float .f32 u, .float .f32 v, .float .f32 w]
theorem ok_impl_coordinates : FnOk Try.prog 135 s_impl_coordinates := fnOk_typed (fnOk_runC (C := c_impl_coordinates) rfl mixed .nil .nil .nil Try.func135 (by kernel_rfl)) fun (x : (((Nat) × (Nat) × (Nat)) × Unit)) wf K h => by
  obtain ⟨⟨u, v, w⟩, ⟨⟩⟩ := x
  replace h : K (.agg [.float .f32 u, .float .f32 v, .float .f32 w]) [] := h
  rw [w_impl_coordinates u v w K]
  exact h

/-! impl.vectorOf -/
noncomputable def c_impl_vectorOf : Ctx := mkC Try.prog tyT [] [] [] 10 (fun _ => none) 0
theorem w_impl_vectorOf (u v w : Nat) (K : V → Heap → Prop) : wpFn c_impl_vectorOf Try.f138 (encAs [.agg tV] ((u, v, w), ())) [] K =
  K (.agg [(.float .f32 (u)), (.float .f32 (v)), (.float .f32 (w))]) [] := by kernel_rfl
noncomputable def s_impl_vectorOf : Sm := semT [.agg tV] fun x => match x with | ((u, v, w), _) => .agg [.float .f32 u, .float .f32 v, .float .f32 w]
theorem ok_impl_vectorOf : FnOk Try.prog 138 s_impl_vectorOf := fnOk_typed (fnOk_runC (C := c_impl_vectorOf) rfl mixed .nil .nil .nil Try.func138 (by kernel_rfl)) fun (x : (((Nat) × (Nat) × (Nat)) × Unit)) wf K h => by
  obtain ⟨⟨u, v, w⟩, ⟨⟩⟩ := x
  replace h : K (.agg [.float .f32 u, .float .f32 v, .float .f32 w]) [] := h
  rw [w_impl_vectorOf u v w K]
  exact h

theorem nums_len {k : Int} {xs : List Nat} (h : numsB k xs = true) : (xs.length : Int) = kindN k := by
  unfold numsB at h
  simp only [Bool.and_eq_true, beq_iff_eq] at h
  exact h.2.1
theorem nums_isK {k : Int} {xs : List Nat} (h : numsB k xs = true) : isK k = true := by
  unfold numsB at h
  simp only [Bool.and_eq_true] at h
  exact h.1
theorem list1 {xs : List Nat} (h : (xs.length : Int) = 1) : ∃ x, xs = [x] := List.length_eq_one_iff.1 (by omega)
theorem list2 {xs : List Nat} (h : (xs.length : Int) = 2) : ∃ x y, xs = [x, y] := by
  match xs, h with
  | [x, y], _ => exact ⟨x, y, rfl⟩
  | [], h => simp at h
  | [_], h => simp at h
  | _ :: _ :: _ :: _, h => simp only [List.length_cons] at h; omega
theorem list3 {xs : List Nat} (h : (xs.length : Int) = 3) : ∃ x y z, xs = [x, y, z] := by
  match xs, h with
  | [x, y, z], _ => exact ⟨x, y, z, rfl⟩
  | [], h => simp at h
  | [_], h => simp at h
  | [_, _], h => simp at h
  | _ :: _ :: _ :: _ :: _, h => simp only [List.length_cons] at h; omega
theorem list4 {xs : List Nat} (h : (xs.length : Int) = 4) : ∃ x y z w, xs = [x, y, z, w] := by
  match xs, h with
  | [x, y, z, w], _ => exact ⟨x, y, z, w, rfl⟩
  | [], h => simp at h
  | [_], h => simp at h
  | [_, _], h => simp at h
  | [_, _, _], h => simp at h
  | _ :: _ :: _ :: _ :: _ :: _, h => simp only [List.length_cons] at h; omega

/-! (*impl.Node).leaf -/
noncomputable def c_impl_Node_leaf : Ctx := mkC Try.prog tyT [(61, s_impl_LongOf), (118, s_impl_sizeOf), (164, s_impl_greater), (111, s_impl_lesser), (165, s_impl_shortened), (123, s_impl_InnerOf)] [] [] 117 (fun _ => none) 0
theorem w_impl_Node_leaf_0 (a c : Int) (xs : List Nat) (p : V3) (K : V → Heap → Prop) : wpFn c_impl_Node_leaf Try.f139 (encAs [.ref tN, .agg tV] ((0, a, c, xs), p, ())) [] K =
  (match xs[0]? with
    | some y0 => K (.float .f32 (fsub FloatKind.f32 (longV p) y0)) []
    | none => False) := by kernel_rfl
theorem w_impl_Node_leaf_1 (a c : Int) (xs : List Nat) (p : V3) (K : V → Heap → Prop) : wpFn c_impl_Node_leaf Try.f139 (encAs [.ref tN, .agg tV] ((1, a, c, xs), p, ())) [] K =
  (match xs[0]? with
    | some y0 => (match xs[1]? with
      | some y1 => (match xs[2]? with
        | some y2 => K (.float .f32 (fadd FloatKind.f32 (longV (grV 0 (fsub FloatKind.f32 (absV (Prod.fst p)) y0), grV 0 (fsub FloatKind.f32 (absV (Prod.fst (Prod.snd p))) y1), grV 0 (fsub FloatKind.f32 (absV (Prod.snd (Prod.snd p))) y2))) (lsV 0 (grV (grV (fsub FloatKind.f32 (absV (Prod.fst p)) y0) (fsub FloatKind.f32 (absV (Prod.fst (Prod.snd p))) y1)) (fsub FloatKind.f32 (absV (Prod.snd (Prod.snd p))) y2))))) []
        | none => False)
      | none => False)
    | none => False) := by kernel_rfl
theorem w_impl_Node_leaf_2 (a c : Int) (xs : List Nat) (p : V3) (K : V → Heap → Prop) : wpFn c_impl_Node_leaf Try.f139 (encAs [.ref tN, .agg tV] ((2, a, c, xs), p, ())) [] K =
  (match xs[0]? with
    | some y0 => (match xs[1]? with
      | some y1 => K (.float .f32 (fsub FloatKind.f32 (longV (Prod.fst p, shoV (Prod.fst (Prod.snd p)) y0, Prod.snd (Prod.snd p))) y1)) []
      | none => False)
    | none => False) := by kernel_rfl
theorem w_impl_Node_leaf_3 (a c : Int) (xs : List Nat) (p : V3) (K : V → Heap → Prop) : wpFn c_impl_Node_leaf Try.f139 (encAs [.ref tN, .agg tV] ((3, a, c, xs), p, ())) [] K =
  (match xs[0]? with
    | some y0 => (match xs[1]? with
      | some y1 => K (.float .f32 (fsub FloatKind.f32 (longV (fsub FloatKind.f32 (longV (Prod.fst p, 0, Prod.snd (Prod.snd p))) y0, Prod.fst (Prod.snd p), 0)) y1)) []
      | none => False)
    | none => False) := by kernel_rfl
theorem w_impl_Node_leaf_4 (a c : Int) (xs : List Nat) (p : V3) (K : V → Heap → Prop) : wpFn c_impl_Node_leaf Try.f139 (encAs [.ref tN, .agg tV] ((4, a, c, xs), p, ())) [] K =
  (match xs[0]? with
    | some y0 => (match xs[1]? with
      | some y1 => (match xs[2]? with
        | some y2 => (match xs[3]? with
          | some y3 => K (.float .f32 (fsub FloatKind.f32 (innerV p (y0, y1, y2)) y3)) []
          | none => False)
        | none => False)
      | none => False)
    | none => False) := by kernel_rfl
noncomputable def s_impl_Node_leaf : Sm := semG [.ref tN, .agg tV] (fun x => match x with | ((k, a, c, xs), p, _) => numsB k xs && inR k 0 4) fun x => match x with | ((k, a, c, xs), p, _) => .float .f32 (leafV k xs p)
theorem ok_impl_Node_leaf : FnOk Try.prog 139 s_impl_Node_leaf := fnOk_typedG (fnOk_runC (C := c_impl_Node_leaf) rfl mixed (.cons ok_impl_LongOf (.cons ok_impl_sizeOf (.cons ok_impl_greater (.cons ok_impl_lesser (.cons ok_impl_shortened (.cons ok_impl_InnerOf .nil)))))) .nil .nil Try.func139 (by kernel_rfl)) fun (x : (((Int) × (Int) × (Int) × (List Nat)) × (V3) × Unit)) wf hg K h => by
  obtain ⟨⟨k, a, c, xs⟩, p, ⟨⟩⟩ := x
  replace hg : (numsB k xs && inR k 0 4) = true := hg
  replace h : K (.float .f32 (leafV k xs p)) [] := h
  simp only [Bool.and_eq_true] at hg
  obtain ⟨h1, h2⟩ := hg
  have hl := nums_len h1
  have h2 := inR_iff.1 h2
  rcases (by omega : k = 0 ∨ k = 1 ∨ k = 2 ∨ k = 3 ∨ k = 4) with rfl | rfl | rfl | rfl | rfl
  · obtain ⟨x, rfl⟩ := list1 hl
    rw [w_impl_Node_leaf_0 a c _ p K]; exact Eq.mp (by kernel_rfl) h
  · obtain ⟨x, y, z, rfl⟩ := list3 hl
    rw [w_impl_Node_leaf_1 a c _ p K]; exact Eq.mp (by kernel_rfl) h
  · obtain ⟨x, y, rfl⟩ := list2 hl
    rw [w_impl_Node_leaf_2 a c _ p K]; exact Eq.mp (by kernel_rfl) h
  · obtain ⟨x, y, rfl⟩ := list2 hl
    rw [w_impl_Node_leaf_3 a c _ p K]; exact Eq.mp (by kernel_rfl) h
  · obtain ⟨x, y, z, w, rfl⟩ := list4 hl
    rw [w_impl_Node_leaf_4 a c _ p K]; exact Eq.mp (by kernel_rfl) h

/-! (*impl.Node).mix -/
noncomputable def c_impl_Node_mix : Ctx := mkC Try.prog tyT [(111, s_impl_lesser), (164, s_impl_greater), (118, s_impl_sizeOf), (166, s_impl_bulge)] [] [] 90 (fun _ => none) 0
theorem w_impl_Node_mix_5 (a c : Int) (xs : List Nat) (u v : Nat) (K : V → Heap → Prop) : wpFn c_impl_Node_mix Try.f140 (encAs [.ref tN, .cell tF, .cell tF] ((5, a, c, xs), u, v, ())) [] K =
  K (.float .f32 (lsV u v)) [] := by kernel_rfl
theorem w_impl_Node_mix_6 (a c : Int) (xs : List Nat) (u v : Nat) (K : V → Heap → Prop) : wpFn c_impl_Node_mix Try.f140 (encAs [.ref tN, .cell tF, .cell tF] ((6, a, c, xs), u, v, ())) [] K =
  K (.float .f32 (grV u v)) [] := by kernel_rfl
theorem w_impl_Node_mix_7 (a c : Int) (xs : List Nat) (u v : Nat) (K : V → Heap → Prop) : wpFn c_impl_Node_mix Try.f140 (encAs [.ref tN, .cell tF, .cell tF] ((7, a, c, xs), u, v, ())) [] K =
  K (.float .f32 (grV u (fneg FloatKind.f32 v))) [] := by kernel_rfl
theorem w_impl_Node_mix_8 (a c : Int) (xs : List Nat) (u v : Nat) (K : V → Heap → Prop) : wpFn c_impl_Node_mix Try.f140 (encAs [.ref tN, .cell tF, .cell tF] ((8, a, c, xs), u, v, ())) [] K =
  (match xs[0]? with
    | some y0 => cond (fgt FloatKind.f32 (fsub FloatKind.f32 y0 (absV (fsub FloatKind.f32 u v))) 0)
      ((match xs[0]? with
        | some y1 => K (.float .f32 (fsub FloatKind.f32 (lsV u v) (bulV (fsub FloatKind.f32 y0 (absV (fsub FloatKind.f32 u v))) y1))) []
        | none => False))
      (K (.float .f32 (lsV u v)) [])
    | none => False) := by kernel_rfl
theorem w_impl_Node_mix_9 (a c : Int) (xs : List Nat) (u v : Nat) (K : V → Heap → Prop) : wpFn c_impl_Node_mix Try.f140 (encAs [.ref tN, .cell tF, .cell tF] ((9, a, c, xs), u, v, ())) [] K =
  K (.float .f32 (u)) [] := by kernel_rfl
theorem w_impl_Node_mix_10 (a c : Int) (xs : List Nat) (u v : Nat) (K : V → Heap → Prop) : wpFn c_impl_Node_mix Try.f140 (encAs [.ref tN, .cell tF, .cell tF] ((10, a, c, xs), u, v, ())) [] K =
  (match xs[0]? with
    | some y0 => K (.float .f32 (fmul FloatKind.f32 u y0)) []
    | none => False) := by kernel_rfl
theorem w_impl_Node_mix_11 (a c : Int) (xs : List Nat) (u v : Nat) (K : V → Heap → Prop) : wpFn c_impl_Node_mix Try.f140 (encAs [.ref tN, .cell tF, .cell tF] ((11, a, c, xs), u, v, ())) [] K =
  K (.float .f32 (u)) [] := by kernel_rfl
theorem w_impl_Node_mix_12 (a c : Int) (xs : List Nat) (u v : Nat) (K : V → Heap → Prop) : wpFn c_impl_Node_mix Try.f140 (encAs [.ref tN, .cell tF, .cell tF] ((12, a, c, xs), u, v, ())) [] K =
  K (.float .f32 (u)) [] := by kernel_rfl
theorem w_impl_Node_mix_13 (a c : Int) (xs : List Nat) (u v : Nat) (K : V → Heap → Prop) : wpFn c_impl_Node_mix Try.f140 (encAs [.ref tN, .cell tF, .cell tF] ((13, a, c, xs), u, v, ())) [] K =
  K (.float .f32 (u)) [] := by kernel_rfl
theorem w_impl_Node_mix_14 (a c : Int) (xs : List Nat) (u v : Nat) (K : V → Heap → Prop) : wpFn c_impl_Node_mix Try.f140 (encAs [.ref tN, .cell tF, .cell tF] ((14, a, c, xs), u, v, ())) [] K =
  K (.float .f32 (u)) [] := by kernel_rfl
theorem w_impl_Node_mix_15 (a c : Int) (xs : List Nat) (u v : Nat) (K : V → Heap → Prop) : wpFn c_impl_Node_mix Try.f140 (encAs [.ref tN, .cell tF, .cell tF] ((15, a, c, xs), u, v, ())) [] K =
  (match xs[0]? with
    | some y0 => K (.float .f32 (fsub FloatKind.f32 u y0)) []
    | none => False) := by kernel_rfl
theorem w_impl_Node_mix_16 (a c : Int) (xs : List Nat) (u v : Nat) (K : V → Heap → Prop) : wpFn c_impl_Node_mix Try.f140 (encAs [.ref tN, .cell tF, .cell tF] ((16, a, c, xs), u, v, ())) [] K =
  (match xs[0]? with
    | some y0 => K (.float .f32 (fsub FloatKind.f32 (absV u) y0)) []
    | none => False) := by kernel_rfl
noncomputable def s_impl_Node_mix : Sm := semG [.ref tN, .cell tF, .cell tF] (fun x => match x with | ((k, a, c, xs), u, v, _) => numsB k xs && inR k 5 16) fun x => match x with | ((k, a, c, xs), u, v, _) => .float .f32 (mixV k xs u v)
theorem ok_impl_Node_mix : FnOk Try.prog 140 s_impl_Node_mix := fnOk_typedG (fnOk_runC (C := c_impl_Node_mix) rfl mixed (.cons ok_impl_lesser (.cons ok_impl_greater (.cons ok_impl_sizeOf (.cons ok_impl_bulge .nil)))) .nil .nil Try.func140 (by kernel_rfl)) fun (x : (((Int) × (Int) × (Int) × (List Nat)) × (Nat) × (Nat) × Unit)) wf hg K h => by
  obtain ⟨⟨k, a, c, xs⟩, u, v, ⟨⟩⟩ := x
  replace hg : (numsB k xs && inR k 5 16) = true := hg
  replace h : K (.float .f32 (mixV k xs u v)) [] := h
  simp only [Bool.and_eq_true] at hg
  obtain ⟨h1, h2⟩ := hg
  have hl := nums_len h1
  have h2 := inR_iff.1 h2
  rcases (by omega : k = 5 ∨ k = 6 ∨ k = 7 ∨ k = 8 ∨ k = 9 ∨ k = 10 ∨ k = 11 ∨ k = 12 ∨ k = 13 ∨ k = 14 ∨ k = 15 ∨ k = 16) with rfl | rfl | rfl | rfl | rfl | rfl | rfl | rfl | rfl | rfl | rfl | rfl
  · rw [w_impl_Node_mix_5 a c _ u v K]; exact Eq.mp (by kernel_rfl) h
  · rw [w_impl_Node_mix_6 a c _ u v K]; exact Eq.mp (by kernel_rfl) h
  · rw [w_impl_Node_mix_7 a c _ u v K]; exact Eq.mp (by kernel_rfl) h
  · obtain ⟨x, rfl⟩ := list1 hl
    rw [w_impl_Node_mix_8 a c _ u v K]
    replace h : K (.float .f32 (smoN x u v)) [] := h
    unfold smoN at h
    show cond (fgt .f32 (fsub .f32 x (absV (fsub .f32 u v))) 0) (K (.float .f32 (fsub .f32 (lsV u v) (bulV (fsub .f32 x (absV (fsub .f32 u v))) x))) []) (K (.float .f32 (lsV u v)) [])
    revert h
    cases fgt .f32 (fsub .f32 x (absV (fsub .f32 u v))) 0 <;> exact id
  · rw [w_impl_Node_mix_9 a c _ u v K]; exact Eq.mp (by kernel_rfl) h
  · obtain ⟨x, rfl⟩ := list1 hl
    rw [w_impl_Node_mix_10 a c _ u v K]; exact Eq.mp (by kernel_rfl) h
  · rw [w_impl_Node_mix_11 a c _ u v K]; exact Eq.mp (by kernel_rfl) h
  · rw [w_impl_Node_mix_12 a c _ u v K]; exact Eq.mp (by kernel_rfl) h
  · rw [w_impl_Node_mix_13 a c _ u v K]; exact Eq.mp (by kernel_rfl) h
  · rw [w_impl_Node_mix_14 a c _ u v K]; exact Eq.mp (by kernel_rfl) h
  · obtain ⟨x, rfl⟩ := list1 hl
    rw [w_impl_Node_mix_15 a c _ u v K]; exact Eq.mp (by kernel_rfl) h
  · obtain ⟨x, rfl⟩ := list1 hl
    rw [w_impl_Node_mix_16 a c _ u v K]; exact Eq.mp (by kernel_rfl) h

/-! (*impl.Node).point -/
noncomputable def c_impl_Node_point : Ctx := mkC Try.prog tyT [(135, s_impl_coordinates), (39, s_impl_LessVectors), (136, s_impl_SineTurns), (118, s_impl_sizeOf), (137, s_impl_foldOf), (138, s_impl_vectorOf)] [] [] 167 (fun _ => none) 0 false [(135, s_impl_coordinates), (39, s_impl_LessVectors), (136, s_impl_SineTurns), (118, s_impl_sizeOf), (137, s_impl_foldOf), (138, s_impl_vectorOf)] false true true []
theorem w_impl_Node_point_9 (a c : Int) (xs : List Nat) (u v w : Nat) (K : V → Heap → Prop) : wpFn c_impl_Node_point Try.f85 (encAs [.ref tN, .agg tV] ((9, a, c, xs), (u, v, w), ())) [] K =
  (match xs[0]? with
    | some y0 => (match xs[1]? with
      | some y1 => (match xs[2]? with
        | some y2 => K (.agg [(.float .f32 (Prod.fst (subV (u, v, w) (y0, y1, y2)))), (.float .f32 (Prod.fst (Prod.snd (subV (u, v, w) (y0, y1, y2))))), (.float .f32 (Prod.snd (Prod.snd (subV (u, v, w) (y0, y1, y2)))))]) []
        | none => False)
      | none => False)
    | none => False) := by kernel_rfl
theorem w_impl_Node_point_10 (a c : Int) (xs : List Nat) (u v w : Nat) (K : V → Heap → Prop) : wpFn c_impl_Node_point Try.f85 (encAs [.ref tN, .agg tV] ((10, a, c, xs), (u, v, w), ())) [] K =
  (match xs[0]? with
    | some y0 => (match xs[0]? with
      | some y1 => (match xs[0]? with
        | some y2 => K (.agg [(.float .f32 (fdiv FloatKind.f32 u y0)), (.float .f32 (fdiv FloatKind.f32 v y1)), (.float .f32 (fdiv FloatKind.f32 w y2))]) []
        | none => False)
      | none => False)
    | none => False) := by kernel_rfl
theorem w_impl_Node_point_11 (a c : Int) (xs : List Nat) (u v w : Nat) (K : V → Heap → Prop) : wpFn c_impl_Node_point Try.f85 (encAs [.ref tN, .agg tV] ((11, a, c, xs), (u, v, w), ())) [] K =
  (match xs[0]? with
    | some y0 => (match xs[1]? with
      | some y1 => (match xs[2]? with
        | some y2 => K (.agg [(.float .f32 (fdiv FloatKind.f32 u y0)), (.float .f32 (fdiv FloatKind.f32 v y1)), (.float .f32 (fdiv FloatKind.f32 w y2))]) []
        | none => False)
      | none => False)
    | none => False) := by kernel_rfl
theorem w_impl_Node_point_12_0 (a : Int) (xs : List Nat) (u v w : Nat) (K : V → Heap → Prop) : wpFn c_impl_Node_point Try.f85 (encAs [.ref tN, .agg tV] ((12, a, 0, xs), (u, v, w), ())) [] K =
  (match xs[0]? with
    | some y0 => cond (sineOk (fsub FloatKind.f32 1048576000 y0))
      ((match xs[0]? with
        | some y1 => cond (sineOk y1)
          (K (.agg [(.float .f32 (u)), (.float .f32 (fadd FloatKind.f32 (fmul FloatKind.f32 (sineF (fsub FloatKind.f32 1048576000 y0)) v) (fmul FloatKind.f32 (sineF y1) w))), (.float .f32 (fsub FloatKind.f32 (fmul FloatKind.f32 (sineF (fsub FloatKind.f32 1048576000 y0)) w) (fmul FloatKind.f32 (sineF y1) v)))]) [])
          (False)
        | none => False))
      (False)
    | none => False) := by kernel_rfl
theorem w_impl_Node_point_12_1 (a : Int) (xs : List Nat) (u v w : Nat) (K : V → Heap → Prop) : wpFn c_impl_Node_point Try.f85 (encAs [.ref tN, .agg tV] ((12, a, 1, xs), (u, v, w), ())) [] K =
  (match xs[0]? with
    | some y0 => cond (sineOk (fsub FloatKind.f32 1048576000 y0))
      ((match xs[0]? with
        | some y1 => cond (sineOk y1)
          (K (.agg [(.float .f32 (fsub FloatKind.f32 (fmul FloatKind.f32 (sineF (fsub FloatKind.f32 1048576000 y0)) u) (fmul FloatKind.f32 (sineF y1) w))), (.float .f32 (v)), (.float .f32 (fadd FloatKind.f32 (fmul FloatKind.f32 (sineF (fsub FloatKind.f32 1048576000 y0)) w) (fmul FloatKind.f32 (sineF y1) u)))]) [])
          (False)
        | none => False))
      (False)
    | none => False) := by kernel_rfl
theorem w_impl_Node_point_12_2 (a : Int) (xs : List Nat) (u v w : Nat) (K : V → Heap → Prop) : wpFn c_impl_Node_point Try.f85 (encAs [.ref tN, .agg tV] ((12, a, 2, xs), (u, v, w), ())) [] K =
  (match xs[0]? with
    | some y0 => cond (sineOk (fsub FloatKind.f32 1048576000 y0))
      ((match xs[0]? with
        | some y1 => cond (sineOk y1)
          (K (.agg [(.float .f32 (fadd FloatKind.f32 (fmul FloatKind.f32 (sineF (fsub FloatKind.f32 1048576000 y0)) u) (fmul FloatKind.f32 (sineF y1) v))), (.float .f32 (fsub FloatKind.f32 (fmul FloatKind.f32 (sineF (fsub FloatKind.f32 1048576000 y0)) v) (fmul FloatKind.f32 (sineF y1) u))), (.float .f32 (w))]) [])
          (False)
        | none => False))
      (False)
    | none => False) := by kernel_rfl
theorem w_impl_Node_point_13_0 (a : Int) (xs : List Nat) (u v w : Nat) (K : V → Heap → Prop) : wpFn c_impl_Node_point Try.f85 (encAs [.ref tN, .agg tV] ((13, a, 0, xs), (u, v, w), ())) [] K =
  K (.agg [(.float .f32 (absV u)), (.float .f32 (v)), (.float .f32 (w))]) [] := by kernel_rfl
theorem w_impl_Node_point_13_1 (a : Int) (xs : List Nat) (u v w : Nat) (K : V → Heap → Prop) : wpFn c_impl_Node_point Try.f85 (encAs [.ref tN, .agg tV] ((13, a, 1, xs), (u, v, w), ())) [] K =
  K (.agg [(.float .f32 (u)), (.float .f32 (absV v)), (.float .f32 (w))]) [] := by kernel_rfl
theorem w_impl_Node_point_13_2 (a : Int) (xs : List Nat) (u v w : Nat) (K : V → Heap → Prop) : wpFn c_impl_Node_point Try.f85 (encAs [.ref tN, .agg tV] ((13, a, 2, xs), (u, v, w), ())) [] K =
  K (.agg [(.float .f32 (u)), (.float .f32 (v)), (.float .f32 (absV w))]) [] := by kernel_rfl
theorem w_impl_Node_point_14_0 (a : Int) (xs : List Nat) (u v w : Nat) (K : V → Heap → Prop) : wpFn c_impl_Node_point Try.f85 (encAs [.ref tN, .agg tV] ((14, a, 0, xs), (u, v, w), ())) [] K =
  (match xs[0]? with
    | some y0 => K (.agg [(.float .f32 (absV (fsub FloatKind.f32 u (foldV u y0)))), (.float .f32 (v)), (.float .f32 (w))]) []
    | none => False) := by kernel_rfl
theorem w_impl_Node_point_14_1 (a : Int) (xs : List Nat) (u v w : Nat) (K : V → Heap → Prop) : wpFn c_impl_Node_point Try.f85 (encAs [.ref tN, .agg tV] ((14, a, 1, xs), (u, v, w), ())) [] K =
  (match xs[0]? with
    | some y0 => K (.agg [(.float .f32 (u)), (.float .f32 (absV (fsub FloatKind.f32 v (foldV v y0)))), (.float .f32 (w))]) []
    | none => False) := by kernel_rfl
theorem w_impl_Node_point_14_2 (a : Int) (xs : List Nat) (u v w : Nat) (K : V → Heap → Prop) : wpFn c_impl_Node_point Try.f85 (encAs [.ref tN, .agg tV] ((14, a, 2, xs), (u, v, w), ())) [] K =
  (match xs[0]? with
    | some y0 => K (.agg [(.float .f32 (u)), (.float .f32 (v)), (.float .f32 (absV (fsub FloatKind.f32 w (foldV w y0))))]) []
    | none => False) := by kernel_rfl
theorem w_impl_Node_point_15 (a c : Int) (xs : List Nat) (u v w : Nat) (K : V → Heap → Prop) : wpFn c_impl_Node_point Try.f85 (encAs [.ref tN, .agg tV] ((15, a, c, xs), (u, v, w), ())) [] K =
  K (.agg [(.float .f32 (u)), (.float .f32 (v)), (.float .f32 (w))]) [] := by kernel_rfl
theorem w_impl_Node_point_16 (a c : Int) (xs : List Nat) (u v w : Nat) (K : V → Heap → Prop) : wpFn c_impl_Node_point Try.f85 (encAs [.ref tN, .agg tV] ((16, a, c, xs), (u, v, w), ())) [] K =
  K (.agg [(.float .f32 (u)), (.float .f32 (v)), (.float .f32 (w))]) [] := by kernel_rfl
noncomputable def s_impl_Node_point : Sm := semG [.ref tN, .agg tV] (fun x => match x with | ((k, a, c, xs), (u, v, w), _) => numsB k xs && (inR k 9 16 && (axB k a c && turnB k xs))) fun x => match x with | ((k, a, c, xs), (u, v, w), _) => .agg (enc tV (pointN k c xs (u, v, w)))
theorem ok_impl_Node_point : FnOk Try.prog 85 s_impl_Node_point := fnOk_typedG (fnOk_runC (C := c_impl_Node_point) rfl mixed (.cons ok_impl_coordinates (.cons ok_impl_LessVectors (.cons ok_impl_SineTurns (.cons ok_impl_sizeOf (.cons ok_impl_foldOf (.cons ok_impl_vectorOf .nil)))))) .nil .nil Try.func85 (by kernel_rfl) (.cons ok_impl_coordinates (.cons ok_impl_LessVectors (.cons ok_impl_SineTurns (.cons ok_impl_sizeOf (.cons ok_impl_foldOf (.cons ok_impl_vectorOf .nil))))))) fun (x : (((Int) × (Int) × (Int) × (List Nat)) × ((Nat) × (Nat) × (Nat)) × Unit)) wf hg K h => by
  obtain ⟨⟨k, a, c, xs⟩, ⟨u, v, w⟩, ⟨⟩⟩ := x
  replace hg : (numsB k xs && (inR k 9 16 && (axB k a c && turnB k xs))) = true := hg
  replace h : K (.agg (enc tV (pointN k c xs (u, v, w)))) [] := h
  simp only [Bool.and_eq_true] at hg
  obtain ⟨h1, h2, h3, h4⟩ := hg
  have hl := nums_len h1
  have h2 := inR_iff.1 h2
  have ax : k = 12 ∨ k = 13 ∨ k = 14 → c = 0 ∨ c = 1 ∨ c = 2 := by
    intro e
    have : (c == 0 || inR c 0 2) = true := by rcases e with rfl | rfl | rfl <;> exact h3
    rw [Bool.or_eq_true, beq_iff_eq] at this
    rcases this with e | e
    · omega
    · have := inR_iff.1 e; omega
  rcases (by omega : k = 9 ∨ k = 10 ∨ k = 11 ∨ k = 12 ∨ k = 13 ∨ k = 14 ∨ k = 15 ∨ k = 16) with rfl | rfl | rfl | rfl | rfl | rfl | rfl | rfl
  · obtain ⟨x, y, z, rfl⟩ := list3 hl
    rw [w_impl_Node_point_9 a c _ u v w K]; exact Eq.mp (by kernel_rfl) h
  · obtain ⟨x, rfl⟩ := list1 hl
    rw [w_impl_Node_point_10 a c _ u v w K]; exact Eq.mp (by kernel_rfl) h
  · obtain ⟨x, y, z, rfl⟩ := list3 hl
    rw [w_impl_Node_point_11 a c _ u v w K]; exact Eq.mp (by kernel_rfl) h
  · obtain ⟨x, rfl⟩ := list1 hl
    have h4 : (sineOk x && sineOk (fsub .f32 1048576000 x)) = true := h4
    simp only [Bool.and_eq_true] at h4
    rcases ax (by omega) with rfl | rfl | rfl
    · rw [w_impl_Node_point_12_0 a _ u v w K]; exact cond_yes h4.2 (cond_yes h4.1 (Eq.mp (by kernel_rfl) h))
    · rw [w_impl_Node_point_12_1 a _ u v w K]; exact cond_yes h4.2 (cond_yes h4.1 (Eq.mp (by kernel_rfl) h))
    · rw [w_impl_Node_point_12_2 a _ u v w K]; exact cond_yes h4.2 (cond_yes h4.1 (Eq.mp (by kernel_rfl) h))
  · rcases ax (by omega) with rfl | rfl | rfl
    · rw [w_impl_Node_point_13_0 a _ u v w K]; exact Eq.mp (by kernel_rfl) h
    · rw [w_impl_Node_point_13_1 a _ u v w K]; exact Eq.mp (by kernel_rfl) h
    · rw [w_impl_Node_point_13_2 a _ u v w K]; exact Eq.mp (by kernel_rfl) h
  · obtain ⟨x, rfl⟩ := list1 hl
    rcases ax (by omega) with rfl | rfl | rfl
    · rw [w_impl_Node_point_14_0 a _ u v w K]; exact Eq.mp (by kernel_rfl) h
    · rw [w_impl_Node_point_14_1 a _ u v w K]; exact Eq.mp (by kernel_rfl) h
    · rw [w_impl_Node_point_14_2 a _ u v w K]; exact Eq.mp (by kernel_rfl) h
  · rw [w_impl_Node_point_15 a c _ u v w K]; exact Eq.mp (by kernel_rfl) h
  · rw [w_impl_Node_point_16 a c _ u v w K]; exact Eq.mp (by kernel_rfl) h

end Go.Proofs.Ytfhpmcdbfebflaa

/- Distances of shapes: the recursion. -/
set_option linter.unusedVariables false
set_option linter.unusedSimpArgs false
set_option maxRecDepth 100000
namespace Go.Proofs.Ytfhpmcdbfebflaa
open Go.Ev Go.Ev.Fl

def nodeAt (ns : ShapeD) (i : Int) : NodeD := (ns[i.toNat]?).getD (0, 0, 0, [])
/-- The distance of a node, where its children are below it. -/
--B distV Nat → List (Int × Int × Int × List Nat) → Int → Nat × Nat × Nat → Nat
def distV : Nat → ShapeD → Int → V3 → Nat
  | 0, _, _, _ => 0
  | N + 1, ns, i, p =>
    bif inR (nodeAt ns i).1 0 4 then leafV (nodeAt ns i).1 (nodeAt ns i).2.2.2 p else
    bif inR (nodeAt ns i).1 5 8 then mixV (nodeAt ns i).1 (nodeAt ns i).2.2.2 (distV N ns (nodeAt ns i).2.1 p) (distV N ns (nodeAt ns i).2.2.1 p) else
    mixV (nodeAt ns i).1 (nodeAt ns i).2.2.2 (distV N ns (nodeAt ns i).2.1 (pointN (nodeAt ns i).1 (nodeAt ns i).2.2.1 (nodeAt ns i).2.2.2 p)) 0
--B goodS List (Int × Int × Int × List Nat) → Bool
def goodS (ns : ShapeD) : Bool := nodesB ns && ns.all (fun n => turnB n.1 n.2.2.2)

theorem good_at {ns : ShapeD} (h : goodS ns = true) {i : Int} (h0 : 0 ≤ i) (h1 : i < ns.length) : ns[i.toNat]? = some (nodeAt ns i) ∧ nodeB i (nodeAt ns i) = true ∧ turnB (nodeAt ns i).1 (nodeAt ns i).2.2.2 = true := by
  unfold goodS at h
  simp only [Bool.and_eq_true] at h
  obtain ⟨g1, g2⟩ := h
  have hl : i.toNat < ns.length := by omega
  have e : ns[i.toNat]? = some (ns[i.toNat]'hl) := get_lt hl
  have en : nodeAt ns i = ns[i.toNat]'hl := by unfold nodeAt; rw [e]; rfl
  refine ⟨by rw [e, en], ?_, by rw [en]; exact List.all_eq_true.1 g2 _ (List.getElem_mem hl)⟩
  have := List.all_eq_true.1 g1 i.toNat (by simpa using hl)
  rw [e] at this
  simp only at this
  rw [en]
  rwa [Int.toNat_of_nonneg h0] at this
theorem nodeB_parts {i k a c : Int} {xs : List Nat} (h : nodeB i (k, a, c, xs) = true) : numsB k xs = true ∧ axB k a c = true ∧ ∀ d ∈ kids k a c, 0 ≤ d ∧ d < i := by
  have hk := nodeB_kids h
  unfold nodeB at h
  simp only [Bool.and_eq_true] at h
  exact ⟨h.1, h.2.1, fun d hd => by have := hk d hd; omega⟩

/-! (*impl.Shape).distance -/
noncomputable def sr_impl_Shape_distance (N : Nat) : Sm := semG [.ref tS, .cell tI, .agg tV] (fun x => match x with | (ns, i, p, _) => decide (i.toNat < N) && (goodS ns && (decide (0 ≤ i) && decide (i < ns.length)))) fun x => match x with | (ns, i, p, _) => .float .f32 (distV N ns i p)
noncomputable def c_impl_Shape_distance (N : Nat) : Ctx := mkC Try.prog tyT [(86, sr_impl_Shape_distance N), (83, s_impl_childrenOf), (139, s_impl_Node_leaf), (140, s_impl_Node_mix), (85, s_impl_Node_point)] [] [] 53 (fun _ => none) 0
theorem w_impl_Shape_distance (N : Nat) (ns : ShapeD) (i : Int) (p : V3) (K : V → Heap → Prop) : wpFn (c_impl_Shape_distance N) Try.f86 (encAs [.ref tS, .cell tI, .agg tV] (ns, i, p, ())) [] K =
  cond (decide (0 ≤ i))
    ((match ns[Int.toNat i]? with
      | some y0 => cond ((↑(List.length (kids (Prod.fst y0) (Prod.fst (Prod.snd y0)) (Prod.fst (Prod.snd (Prod.snd y0))))) : Int) == 0)
        (cond (numsB (Prod.fst y0) (Prod.snd (Prod.snd (Prod.snd y0))) && inR (Prod.fst y0) 0 4)
          (K (.float .f32 (leafV (Prod.fst y0) (Prod.snd (Prod.snd (Prod.snd y0))) p)) [])
          (False))
        (cond ((↑(List.length (kids (Prod.fst y0) (Prod.fst (Prod.snd y0)) (Prod.fst (Prod.snd (Prod.snd y0))))) : Int) == 1)
          (cond (numsB (Prod.fst y0) (Prod.snd (Prod.snd (Prod.snd y0))) && (inR (Prod.fst y0) 9 16 && (axB (Prod.fst y0) (Prod.fst (Prod.snd y0)) (Prod.fst (Prod.snd (Prod.snd y0))) && turnB (Prod.fst y0) (Prod.snd (Prod.snd (Prod.snd y0))))))
            (cond (decide (Int.toNat (Prod.fst (Prod.snd y0)) < N) && (goodS ns && (decide (0 ≤ Prod.fst (Prod.snd y0)) && decide (Prod.fst (Prod.snd y0) < (↑(List.length ns) : Int)))))
              (cond (numsB (Prod.fst y0) (Prod.snd (Prod.snd (Prod.snd y0))) && inR (Prod.fst y0) 5 16)
                (K (.float .f32 (mixV (Prod.fst y0) (Prod.snd (Prod.snd (Prod.snd y0))) (distV N ns (Prod.fst (Prod.snd y0)) (pointN (Prod.fst y0) (Prod.fst (Prod.snd (Prod.snd y0))) (Prod.snd (Prod.snd (Prod.snd y0))) p)) 0)) [])
                (False))
              (False))
            (False))
          (cond (decide (Int.toNat (Prod.fst (Prod.snd y0)) < N) && (goodS ns && (decide (0 ≤ Prod.fst (Prod.snd y0)) && decide (Prod.fst (Prod.snd y0) < (↑(List.length ns) : Int)))))
            (cond (decide (Int.toNat (Prod.fst (Prod.snd (Prod.snd y0))) < N) && (goodS ns && (decide (0 ≤ Prod.fst (Prod.snd (Prod.snd y0))) && decide (Prod.fst (Prod.snd (Prod.snd y0)) < (↑(List.length ns) : Int)))))
              (cond (numsB (Prod.fst y0) (Prod.snd (Prod.snd (Prod.snd y0))) && inR (Prod.fst y0) 5 16)
                (K (.float .f32 (mixV (Prod.fst y0) (Prod.snd (Prod.snd (Prod.snd y0))) (distV N ns (Prod.fst (Prod.snd y0)) p) (distV N ns (Prod.fst (Prod.snd (Prod.snd y0))) p))) [])
                (False))
              (False))
            (False)))
      | none => False))
    (False) := by kernel_rfl
theorem okr_impl_Shape_distance : ∀ N, FnOk Try.prog 86 (sr_impl_Shape_distance N)
| 0 => fnOk_never fun _ => rfl
| N + 1 => fnOk_typedG (fnOk_runC (C := c_impl_Shape_distance N) rfl mixed (.cons (okr_impl_Shape_distance N) (.cons ok_impl_childrenOf (.cons ok_impl_Node_leaf (.cons ok_impl_Node_mix (.cons ok_impl_Node_point .nil))))) .nil .nil Try.func86 (by kernel_rfl)) fun (x : ((ShapeD) × (Int) × (V3) × Unit)) wf hg K h => by
  obtain ⟨ns, i, p, ⟨⟩⟩ := x
  replace hg : (decide (i.toNat < (N + 1)) && (goodS ns && (decide (0 ≤ i) && decide (i < ns.length)))) = true := hg
  replace h : K (.float .f32 (distV (N + 1) ns i p)) [] := h
  rw [w_impl_Shape_distance N ns i p K]
  simp only [Bool.and_eq_true, decide_eq_true_eq] at hg
  obtain ⟨g3, g0, g1, g2⟩ := hg
  obtain ⟨e, hb, ht⟩ := good_at g0 g1 g2
  have hs : distV (N + 1) ns i p = bif inR (nodeAt ns i).1 0 4 then leafV (nodeAt ns i).1 (nodeAt ns i).2.2.2 p else
    bif inR (nodeAt ns i).1 5 8 then mixV (nodeAt ns i).1 (nodeAt ns i).2.2.2 (distV N ns (nodeAt ns i).2.1 p) (distV N ns (nodeAt ns i).2.2.1 p) else
    mixV (nodeAt ns i).1 (nodeAt ns i).2.2.2 (distV N ns (nodeAt ns i).2.1 (pointN (nodeAt ns i).1 (nodeAt ns i).2.2.1 (nodeAt ns i).2.2.2 p)) 0 := rfl
  rw [hs] at h
  generalize nodeAt ns i = n at *
  obtain ⟨k, a, c, xs⟩ := n
  obtain ⟨b1, b2, b3⟩ := nodeB_parts hb
  have hk := nums_isK b1
  simp only [d_t g1, e, cond_true]
  simp only at h ht
  rcases kind_cases a c hk with ⟨q1, q2, q3⟩ | ⟨q1, q2, q3⟩ | ⟨q1, q2, q3⟩ <;> rw [q3] at b3 ⊢ <;> simp only [q1, q2, cond_true, cond_false] at h
  · rw [b1, q1]; exact h
  · have k1 := b3 a (by simp)
    have k9 : inR k 9 16 = true := by
      have := inR_iff.1 (show inR k 0 16 = true from hk)
      have n1 : ¬ (0 ≤ k ∧ k ≤ 4) := fun e => by rw [inR_iff.2 e] at q1; cases q1
      have n2 : ¬ (5 ≤ k ∧ k ≤ 8) := fun e => by rw [inR_iff.2 e] at q2; cases q2
      exact inR_iff.2 (by omega)
    have k5 : inR k 5 16 = true := inR_iff.2 (by have := inR_iff.1 k9; omega)
    rw [b1, b2, ht, k9, k5, g0, d_t k1.1, d_t (show a < (ns.length : Int) by omega), d_t (show a.toNat < N by omega)]
    exact h
  · have k1 := b3 a (by simp)
    have k2 := b3 c (by simp)
    have k5 : inR k 5 16 = true := inR_iff.2 (by have := inR_iff.1 q2; omega)
    rw [b1, k5, g0, d_t k1.1, d_t (show a < (ns.length : Int) by omega), d_t (show a.toNat < N by omega), d_t k2.1, d_t (show c < (ns.length : Int) by omega), d_t (show c.toNat < N by omega)]
    exact h
noncomputable abbrev s_impl_Shape_distance : Sm := sr_impl_Shape_distance 17
theorem ok_impl_Shape_distance : FnOk Try.prog 86 s_impl_Shape_distance := okr_impl_Shape_distance 17

end Go.Proofs.Ytfhpmcdbfebflaa

/- Distances of shapes: the functions that ask for them. -/
set_option linter.unusedVariables false
set_option linter.unusedSimpArgs false
set_option maxRecDepth 100000
namespace Go.Proofs.Ytfhpmcdbfebflaa
open Go.Ev Go.Ev.Fl

theorem valid_leng {s : ShapeD} (h : validS s = true) : 1 ≤ s.length ∧ s.length ≤ 16 := by
  unfold validS at h
  simp only [Bool.and_eq_true] at h
  have := inR_iff.1 h.1
  omega
theorem valid_nodes {s : ShapeD} (h : validS s = true) : nodesB s = true := by
  unfold validS at h
  simp only [Bool.and_eq_true] at h
  exact h.2.1
def turnsB (ns : ShapeD) : Bool := ns.all (fun n => turnB n.1 n.2.2.2)
/-- A shape that the walks take. -/
--B okS List (Int × Int × Int × List Nat) → Bool
def okS (ns : ShapeD) : Bool := validS ns && turnsB ns
theorem okS_good {s : ShapeD} (h : okS s = true) : goodS s = true ∧ validS s = true ∧ 1 ≤ s.length ∧ s.length ≤ 16 := by
  unfold okS at h
  simp only [Bool.and_eq_true] at h
  refine ⟨?_, h.1, valid_leng h.1⟩
  unfold goodS
  rw [valid_nodes h.1]
  exact h.2
--B disV List (Int × Int × Int × List Nat) → Nat × Nat × Nat → Nat
def disV (ns : ShapeD) (p : V3) : Nat := distV 17 ns (ns.length - 1) p

/-! (*impl.Shape).last -/
noncomputable def c_impl_Shape_last : Ctx := mkC Try.prog tyT [] [] [] 9 (fun _ => none) 0
theorem w_impl_Shape_last (s : ShapeD) (K : V → Heap → Prop) : wpFn c_impl_Shape_last Try.f84 (encAs [.ref tS] (s, ())) [] K =
  K (.int .i64 (IntKind.wrap IntKind.i64 ((↑(List.length s) : Int) - 1))) [] := by kernel_rfl
noncomputable def s_impl_Shape_last : Sm := semT [.ref tS] fun x => match x with | (s, _) => .int .i64 (IntKind.i64.wrap ((s.length : Int) - 1))
theorem ok_impl_Shape_last : FnOk Try.prog 84 s_impl_Shape_last := fnOk_typed (fnOk_runC (C := c_impl_Shape_last) rfl mixed .nil .nil .nil Try.func84 (by kernel_rfl)) fun (x : ((ShapeD) × Unit)) wf K h => by
  obtain ⟨s, ⟨⟩⟩ := x
  replace h : K (.int .i64 (IntKind.i64.wrap ((s.length : Int) - 1))) [] := h
  rw [w_impl_Shape_last s K]
  exact h

/-! (*impl.Shape).at -/
/-! impl.DistanceAt -/
/-! impl.IsInside -/
/-! impl.DistancesAt -/
/-! the leaf that decides -/
def secV (k : Int) (x y : Nat) : Bool := bif k == 6 then fgt .f32 y x else bif k == 7 then fgt .f32 (fneg .f32 y) x else flt .f32 y x
def leafAt : Nat → ShapeD → Int → V3 → Int
  | 0, _, i, _ => i
  | N + 1, ns, i, p =>
    bif inR (nodeAt ns i).1 0 4 then i else
    bif inR (nodeAt ns i).1 5 8 then leafAt N ns (bif secV (nodeAt ns i).1 (distV 17 ns (nodeAt ns i).2.1 p) (distV 17 ns (nodeAt ns i).2.2.1 p) then (nodeAt ns i).2.2.1 else (nodeAt ns i).2.1) p else
    leafAt N ns (nodeAt ns i).2.1 (pointN (nodeAt ns i).1 (nodeAt ns i).2.2.1 (nodeAt ns i).2.2.2 p)
--B leaV List (Int × Int × Int × List Nat) → Nat × Nat × Nat → Int
def leaV (ns : ShapeD) (p : V3) : Int := leafAt 16 ns (ns.length - 1) p

/-! impl.LeafAt -/
noncomputable def a_impl_LeafAt : Nat → Option Ann := fun n => bif Nat.beq n 4 then some ⟨[2,3,6],2,false⟩ else none
noncomputable def c_impl_LeafAt : Ctx := mkC Try.prog tyT [(33, s_impl_ValidShape), (84, s_impl_Shape_last), (83, s_impl_childrenOf), (85, s_impl_Node_point), (86, s_impl_Shape_distance)] [] [] 75 a_impl_LeafAt 0
noncomputable def fr_impl_LeafAt_4 (ns : ShapeD) (i : Int) (p : V3) : Fr := [(2, .ptr 0 0), (3, .ptr 1 0), (6, .int .i64 i)]
noncomputable def hp_impl_LeafAt_4 (ns : ShapeD) (i : Int) (p : V3) : Heap := [.box [.vec tN ns], .box (enc tV p)]
theorem r_impl_LeafAt_4 (ns : ShapeD) (i : Int) (p : V3) (Kn : Fr → Heap → Prop) (K : V → Heap → Prop) : round c_impl_LeafAt ⟨[2,3,6],2,false⟩ (lb c_impl_LeafAt 4 Try.f29) (fr_impl_LeafAt_4 ns i p) (hp_impl_LeafAt_4 ns i p) Kn (lk c_impl_LeafAt 4 Try.f29 [] K) =
  cond (decide (0 ≤ i))
    ((match ns[Int.toNat i]? with
      | some y0 => cond ((↑(List.length (kids (Prod.fst y0) (Prod.fst (Prod.snd y0)) (Prod.fst (Prod.snd (Prod.snd y0))))) : Int) == 0)
        (K (.tuple [(.int .i64 (i)), (.bool true)]) [])
        (cond ((↑(List.length (kids (Prod.fst y0) (Prod.fst (Prod.snd y0)) (Prod.fst (Prod.snd (Prod.snd y0))))) : Int) == 1)
          (cond (numsB (Prod.fst y0) (Prod.snd (Prod.snd (Prod.snd y0))) && (inR (Prod.fst y0) 9 16 && (axB (Prod.fst y0) (Prod.fst (Prod.snd y0)) (Prod.fst (Prod.snd (Prod.snd y0))) && turnB (Prod.fst y0) (Prod.snd (Prod.snd (Prod.snd y0))))))
            (Kn [(2, (.ptr 0 0)), (3, (.ptr 1 0)), (6, (.int .i64 (Prod.fst (Prod.snd y0))))] [(.box [(.vec tN (ns))]), (.box [(.float .f32 (Prod.fst (pointN (Prod.fst y0) (Prod.fst (Prod.snd (Prod.snd y0))) (Prod.snd (Prod.snd (Prod.snd y0))) p))), (.float .f32 (Prod.fst (Prod.snd (pointN (Prod.fst y0) (Prod.fst (Prod.snd (Prod.snd y0))) (Prod.snd (Prod.snd (Prod.snd y0))) p)))), (.float .f32 (Prod.snd (Prod.snd (pointN (Prod.fst y0) (Prod.fst (Prod.snd (Prod.snd y0))) (Prod.snd (Prod.snd (Prod.snd y0))) p))))])])
            (False))
          (cond (decide (Int.toNat (Prod.fst (Prod.snd y0)) < 17) && (goodS ns && (decide (0 ≤ Prod.fst (Prod.snd y0)) && decide (Prod.fst (Prod.snd y0) < (↑(List.length ns) : Int)))))
            (cond (decide (Int.toNat (Prod.fst (Prod.snd (Prod.snd y0))) < 17) && (goodS ns && (decide (0 ≤ Prod.fst (Prod.snd (Prod.snd y0))) && decide (Prod.fst (Prod.snd (Prod.snd y0)) < (↑(List.length ns) : Int)))))
              (cond (Prod.fst y0 == 6)
                (cond (fgt FloatKind.f32 (distV 17 ns (Prod.fst (Prod.snd (Prod.snd y0))) p) (distV 17 ns (Prod.fst (Prod.snd y0)) p))
                  (Kn [(2, (.ptr 0 0)), (3, (.ptr 1 0)), (6, (.int .i64 (Prod.fst (Prod.snd (Prod.snd y0)))))] [(.box [(.vec tN (ns))]), (.box [(.float .f32 (Prod.fst p)), (.float .f32 (Prod.fst (Prod.snd p))), (.float .f32 (Prod.snd (Prod.snd p)))])])
                  (Kn [(2, (.ptr 0 0)), (3, (.ptr 1 0)), (6, (.int .i64 (Prod.fst (Prod.snd y0))))] [(.box [(.vec tN (ns))]), (.box [(.float .f32 (Prod.fst p)), (.float .f32 (Prod.fst (Prod.snd p))), (.float .f32 (Prod.snd (Prod.snd p)))])]))
                (cond (Prod.fst y0 == 7)
                  (cond (fgt FloatKind.f32 (fneg FloatKind.f32 (distV 17 ns (Prod.fst (Prod.snd (Prod.snd y0))) p)) (distV 17 ns (Prod.fst (Prod.snd y0)) p))
                    (Kn [(2, (.ptr 0 0)), (3, (.ptr 1 0)), (6, (.int .i64 (Prod.fst (Prod.snd (Prod.snd y0)))))] [(.box [(.vec tN (ns))]), (.box [(.float .f32 (Prod.fst p)), (.float .f32 (Prod.fst (Prod.snd p))), (.float .f32 (Prod.snd (Prod.snd p)))])])
                    (Kn [(2, (.ptr 0 0)), (3, (.ptr 1 0)), (6, (.int .i64 (Prod.fst (Prod.snd y0))))] [(.box [(.vec tN (ns))]), (.box [(.float .f32 (Prod.fst p)), (.float .f32 (Prod.fst (Prod.snd p))), (.float .f32 (Prod.snd (Prod.snd p)))])]))
                  (cond (flt FloatKind.f32 (distV 17 ns (Prod.fst (Prod.snd (Prod.snd y0))) p) (distV 17 ns (Prod.fst (Prod.snd y0)) p))
                    (Kn [(2, (.ptr 0 0)), (3, (.ptr 1 0)), (6, (.int .i64 (Prod.fst (Prod.snd (Prod.snd y0)))))] [(.box [(.vec tN (ns))]), (.box [(.float .f32 (Prod.fst p)), (.float .f32 (Prod.fst (Prod.snd p))), (.float .f32 (Prod.snd (Prod.snd p)))])])
                    (Kn [(2, (.ptr 0 0)), (3, (.ptr 1 0)), (6, (.int .i64 (Prod.fst (Prod.snd y0))))] [(.box [(.vec tN (ns))]), (.box [(.float .f32 (Prod.fst p)), (.float .f32 (Prod.fst (Prod.snd p))), (.float .f32 (Prod.snd (Prod.snd p)))])]))))
              (False))
            (False)))
      | none => False))
    (False) := by kernel_rfl
theorem w_impl_LeafAt (ns : ShapeD) (p : V3) (K : V → Heap → Prop) : wpFn c_impl_LeafAt Try.f29 (encAs [.agg tS, .agg tV] (ns, p, ())) [] K =
  cond (!validS ns)
    (K (.tuple [(.int .i64 0), (.bool false)]) [])
    (LoopE c_impl_LeafAt ⟨[2, 3, 6], 2, false⟩ (lb c_impl_LeafAt 4 Try.f29) [(2, (.ptr 0 0)), (3, (.ptr 1 0)), (6, (.int .i64 (IntKind.wrap IntKind.i64 ((↑(List.length ns) : Int) - 1))))] [(.box [(.vec tN (ns))]), (.box [(.float .f32 (Prod.fst p)), (.float .f32 (Prod.fst (Prod.snd p))), (.float .f32 (Prod.snd (Prod.snd p)))])] (lk c_impl_LeafAt 4 Try.f29 [] K)) := by kernel_rfl
noncomputable def s_impl_LeafAt : Sm := semG [.agg tS, .agg tV] (fun x => match x with | (ns, p, _) => okS ns) fun x => match x with | (ns, p, _) => .tuple [.int .i64 (leaV ns p), .bool true]
theorem ok_impl_LeafAt : FnOk Try.prog 29 s_impl_LeafAt := fnOk_typedG (fnOk_runC (C := c_impl_LeafAt) rfl mixed (.cons ok_impl_ValidShape (.cons ok_impl_Shape_last (.cons ok_impl_childrenOf (.cons ok_impl_Node_point (.cons ok_impl_Shape_distance .nil))))) .nil .nil Try.func29 (by kernel_rfl)) fun (x : ((ShapeD) × (V3) × Unit)) wf hg K h => by
  obtain ⟨ns, p, ⟨⟩⟩ := x
  replace hg : (okS ns) = true := hg
  replace h : K (.tuple [.int .i64 (leaV ns p), .bool true]) [] := h
  rw [w_impl_LeafAt ns p K]
  obtain ⟨g1, g2, g3, g4⟩ := okS_good hg
  rw [g2]
  simp only [Bool.not_true, cond_false]
  have e : IntKind.i64.wrap ((ns.length : Int) - 1) = (ns.length : Int) - 1 := i64_of (by omega) (by omega)
  rw [e]
  refine loop_run (σ := Nat × Int × V3) (fun r => fr_impl_LeafAt_4 ns r.2.1 p) (fun r => hp_impl_LeafAt_4 ns r.2.1 r.2.2) (fun r => 0 ≤ r.2.1 ∧ r.2.1 < ns.length ∧ r.2.1 < r.1 ∧ leafAt r.1 ns r.2.1 r.2.2 = leaV ns p) (fun r => r.1) ?_ (16, (ns.length : Int) - 1, p) ⟨by simp only; omega, by simp only; omega, by simp only; omega, rfl⟩
  rintro ⟨M, i, q⟩ ⟨h1, h2, h3, h4⟩ Kn hk
  simp only at h1 h2 h3 h4 hk ⊢
  rw [show fr_impl_LeafAt_4 ns i p = fr_impl_LeafAt_4 ns i q from rfl, r_impl_LeafAt_4 ns i q Kn K]
  cases M with
  | zero => omega
  | succ M =>
  obtain ⟨e, hb, ht⟩ := good_at g1 h1 h2
  have hs : leafAt (M + 1) ns i q = bif inR (nodeAt ns i).1 0 4 then i else
    bif inR (nodeAt ns i).1 5 8 then leafAt M ns (bif secV (nodeAt ns i).1 (distV 17 ns (nodeAt ns i).2.1 q) (distV 17 ns (nodeAt ns i).2.2.1 q) then (nodeAt ns i).2.2.1 else (nodeAt ns i).2.1) q else
    leafAt M ns (nodeAt ns i).2.1 (pointN (nodeAt ns i).1 (nodeAt ns i).2.2.1 (nodeAt ns i).2.2.2 q) := rfl
  rw [hs] at h4
  generalize nodeAt ns i = n at *
  obtain ⟨k, a, c, xs⟩ := n
  obtain ⟨b1, b2, b3⟩ := nodeB_parts hb
  have hk0 := nums_isK b1
  simp only [d_t h1, e, cond_true]
  simp only at h4 ht
  rcases kind_cases a c hk0 with ⟨q1, q2, q3⟩ | ⟨q1, q2, q3⟩ | ⟨q1, q2, q3⟩ <;> rw [q3] at b3 ⊢ <;> simp only [q1, q2, cond_true, cond_false] at h4
  · rw [← h4] at h
    exact h
  · have k1 := b3 a (by simp)
    have k9 : inR k 9 16 = true := by
      have := inR_iff.1 (show inR k 0 16 = true from hk0)
      have n1 : ¬ (0 ≤ k ∧ k ≤ 4) := fun e => by rw [inR_iff.2 e] at q1; cases q1
      have n2 : ¬ (5 ≤ k ∧ k ≤ 8) := fun e => by rw [inR_iff.2 e] at q2; cases q2
      exact inR_iff.2 (by omega)
    rw [b1, b2, ht, k9]
    exact hk (M, a, pointN k c xs q) ⟨k1.1, by simp only; omega, by simp only; omega, h4⟩ (Nat.lt_succ_self M)
  · have k1 := b3 a (by simp)
    have k2 := b3 c (by simp)
    rw [g1, d_t k1.1, d_t (show a < (ns.length : Int) by omega), d_t (show a.toNat < 17 by omega), d_t k2.1, d_t (show c < (ns.length : Int) by omega), d_t (show c.toNat < 17 by omega)]
    have go : ∀ j : Int, 0 ≤ j ∧ j < i → leafAt M ns j q = leaV ns p → Kn (fr_impl_LeafAt_4 ns j p) (hp_impl_LeafAt_4 ns j q) := fun j hj hl => hk (M, j, q) ⟨hj.1, by simp only; omega, by simp only; omega, hl⟩ (Nat.lt_succ_self M)
    unfold secV at h4
    simp only [Bool.and_self, cond_true]
    cases c6 : k == 6 with
    | true =>
      simp only [c6, cond_true] at h4 ⊢
      cases f1 : fgt .f32 (distV 17 ns c q) (distV 17 ns a q) <;> rw [f1] at h4
      · exact go _ k1 h4
      · exact go _ k2 h4
    | false =>
      cases c7 : k == 7 with
      | true =>
        simp only [c6, c7, cond_true, cond_false] at h4 ⊢
        cases f1 : fgt .f32 (fneg .f32 (distV 17 ns c q)) (distV 17 ns a q) <;> rw [f1] at h4
        · exact go _ k1 h4
        · exact go _ k2 h4
      | false =>
        simp only [c6, c7, cond_false] at h4 ⊢
        cases f1 : flt .f32 (distV 17 ns c q) (distV 17 ns a q) <;> rw [f1] at h4
        · exact go _ k1 h4
        · exact go _ k2 h4

end Go.Proofs.Ytfhpmcdbfebflaa

/- Rays, factors and marches: walks. -/
set_option linter.unusedVariables false
set_option linter.unusedSimpArgs false
set_option maxRecDepth 100000
namespace Go.Proofs.Ytfhpmcdbfebflaa
open Go.Ev Go.Ev.Fl

abbrev RayD := V3 × V3
abbrev HitD := Int × Int × Nat × V3
def vFin (v : V3) : Bool := finN v.1 && (finN v.2.1 && finN v.2.2)
--B unitV Nat × Nat × Nat → Nat × Nat × Nat
def unitV (v : V3) : V3 := bif feq .f32 (longV v) 0 || !(finN (longV v) && finN (fdiv .f32 1065353216 (longV v))) then (0, 0, 0) else scaleV v (fdiv .f32 1065353216 (longV v))
--B wayV Nat × Nat × Nat → Bool
def wayV (v : V3) : Bool := !nan .f32 v.1 && (!nan .f32 v.2.1 && (!nan .f32 v.2.2 && (!feq .f32 v.1 0 || (!feq .f32 v.2.1 0 || !feq .f32 v.2.2 0))))
--B rayB (Nat × Nat × Nat) × (Nat × Nat × Nat) → Bool
def rayB (r : RayD) : Bool := vFin r.1 && wayV (unitV r.2)
--B onV (Nat × Nat × Nat) × (Nat × Nat × Nat) → Nat → Nat × Nat × Nat
def onV (r : RayD) (far : Nat) : V3 := addV r.1 (scaleV (unitV r.2) far)
--B marB Nat × Nat × Int → Bool
def marB (m : Nat × Nat × Int) : Bool := (finN m.1 && fgt .f32 m.1 0) && (finN m.2.1 && (fge .f32 m.2.1 0 && inR m.2.2 1 64))

/-! impl.finiteVector -/
/-! impl.UnitOf -/
/-! impl.hasWay -/
/-! impl.ValidRay -/
/-! (*impl.Ray).on -/
/-! impl.PlaceOn -/
/-! impl.stepOk -/
/-! impl.ValidMarch -/
/-! factors -/
def nf (fs : List Nat) (i : Int) : Nat := (fs[i.toNat]?).getD 0
def facN (fs : List Nat) (n : NodeD) : Nat :=
  bif n.1 == 4 then longV (nt n.2.2.2 0, nt n.2.2.2 1, nt n.2.2.2 2) else
  bif n.1 == 11 then fmul .f32 (nf fs n.2.1) (grV (grV (fdiv .f32 1065353216 (nt n.2.2.2 0)) (fdiv .f32 1065353216 (nt n.2.2.2 1))) (fdiv .f32 1065353216 (nt n.2.2.2 2))) else
  bif inR n.1 0 4 then 1065353216 else
  bif inR n.1 5 8 then grV (nf fs n.2.1) (nf fs n.2.2.1) else nf fs n.2.1
def facL (ns : ShapeD) : Nat → List Nat
  | 0 => []
  | i + 1 => facL ns i ++ [facN (facL ns i) (nodeAt ns i)]
--B facV List (Int × Int × Int × List Nat) → Nat
def facV (ns : ShapeD) : Nat := nf (facL ns ns.length) (ns.length - 1)
--B slopeV List (Int × Int × Int × List Nat) → Nat
def slopeV (ns : ShapeD) : Nat := bif fge .f32 (facV ns) 1065353216 then facV ns else 1065353216
/-! (*impl.Shape).factor -/
/-! (*impl.Shape).slope -/
/-! impl.SafeStep -/
/-! marches -/
/-- n rounds from the distance d on, of which the first one is the k-th. -/
def marGo (ns : ShapeD) (r : RayD) (near most : Nat) (S : Int) : Nat → Int → Nat → HitD
  | 0, _, d => (2, S, d, onV r d)
  | n + 1, k, d =>
    bif flt .f32 (disV ns (onV r d)) near then (1, k, d, onV r d) else
    bif !fle .f32 (fadd .f32 d (fdiv .f32 (disV ns (onV r d)) (slopeV ns))) most then (0, k, fadd .f32 d (fdiv .f32 (disV ns (onV r d)) (slopeV ns)), onV r (fadd .f32 d (fdiv .f32 (disV ns (onV r d)) (slopeV ns)))) else
    marGo ns r near most S n (k + 1) (fadd .f32 d (fdiv .f32 (disV ns (onV r d)) (slopeV ns)))
--B marV List (Int × Int × Int × List Nat) → (Nat × Nat × Nat) × (Nat × Nat × Nat) → Nat × Nat × Int → Int × Int × Nat × (Nat × Nat × Nat)
def marV (ns : ShapeD) (r : RayD) (m : Nat × Nat × Int) : HitD := marGo ns r m.1 m.2.1 m.2.2 m.2.2.toNat 1 0

/-! (*impl.Shape).march -/
/-! impl.MarchRay -/
end Go.Proofs.Ytfhpmcdbfebflaa

/- Plain: the numbers of turns in drawn shapes; shapes with nodes that change nothing; rays and marches. -/
set_option linter.unusedVariables false
set_option linter.unusedSimpArgs false
set_option maxRecDepth 100000
namespace Go.Proofs.Ytfhpmcdbfebflaa
open Go.Ev Go.Ev.Fl

theorem tab_sine : (List.range 17).all (fun j => sineOk (sixtV (Int.ofNat j - 8)) && sineOk (fsub .f32 1048576000 (sixtV (Int.ofNat j - 8)))) = true := by decide +kernel
theorem turn_ok {n : Int} (h : 0 ≤ n ∧ n < 17) : (sineOk (sixtV (n - 8)) && sineOk (fsub .f32 1048576000 (sixtV (n - 8)))) = true := by
  have := List.all_eq_true.1 tab_sine n.toNat (by simp; omega)
  have e : Int.ofNat n.toNat = n := Int.toNat_of_nonneg h.1
  rw [e] at this
  exact this
theorem turn_not {k : Int} (h : k ≠ 12) (xs : List Nat) : turnB k xs = true := by
  unfold turnB
  rw [beq_eq_false_iff_ne.2 h]
  rfl
theorem turn_nums (k : Int) {s : SrcD} (hb : bytes s.1) : turnB k (numsV k s) = true := by
  by_cases e : k = 12
  · subst e
    exact turn_ok (pickV_range (s := smallS s) ((far_small s).bytes hb) (n := 17) (by omega))
  · exact turn_not e _
theorem turns_iff {ns : ShapeD} : turnsB ns = true ↔ ∀ n ∈ ns, turnB n.1 n.2.2.2 = true := List.all_eq_true
theorem turns_snoc {ns : ShapeD} {n : NodeD} (h : turnsB ns = true) (hn : turnB n.1 n.2.2.2 = true) : turnsB (ns ++ [n]) = true := by
  rw [turns_iff] at h ⊢
  intro m hm
  rcases List.mem_append.1 hm with h1 | h1
  · exact h m h1
  · rw [List.mem_singleton.1 h1]; exact hn
theorem turns_shGo : ∀ (m : Nat) (q : ShD), turnsB q.1 = true → bytes q.2.2.1 → turnsB (shGo m q).1 = true
  | 0, _, h, _ => h
  | m + 1, q, h, hb => turns_shGo m (shStep q) (turns_snoc h (turn_nums _ ((far_T _ _).bytes hb))) ((far_node _ _).bytes hb)
theorem turns_clGo : ∀ (m : Nat) (q : ShD), turnsB q.1 = true → bytes q.2.2.1 → turnsB (clGo m q).1 = true
  | 0, _, h, _ => h
  | m + 1, q, h, hb => turns_clGo m (clStep q) (turns_snoc h (turn_not (by
      have r := pickV_range (s := q.2.2) hb (n := 3) (by omega)
      show 5 + pickV q.2.2 3 ≠ 12
      omega) _)) ((far_pick _ _).bytes hb)
theorem shape_okS {s : SrcD} (hb : bytes s.1) : okS (shapeV s) = true := by
  unfold okS
  rw [shape_ok hb, Bool.true_and]
  have h0 := sh0_ok hb
  have h1 := turns_shGo (1 + pickV s 7).toNat (sh0 s) rfl h0.b
  exact turns_clGo _ _ h1 (shGo_ok _ h0).b
theorem shape_stack {s : SrcD} (hb : bytes s.1) : Stack (shapeV s) [((shapeV s).length : Int) - 1] ∧ 1 ≤ (shapeV s).length := by
  obtain ⟨n, e, n1, n2, h, f1, f2⟩ := sh1_ok hb
  obtain ⟨h2, h3⟩ := clGo_ok ((sh1 s).2.1.length - 1) h (by omega)
  obtain ⟨r, hr⟩ := List.length_eq_one_iff.1 h3
  have hs := h2.st
  rw [hr] at hs
  have hl := h2.l
  have hne : (clGo ((sh1 s).2.1.length - 1) (sh1 s)).1 ≠ [] := fun e => by rw [e] at hl; simp at hl; omega
  have := hs.last hne
  have e2 : r = ((clGo ((sh1 s).2.1.length - 1) (sh1 s)).1.length : Int) - 1 := by simpa using this
  rw [e2] at hs
  exact ⟨hs, by show 1 ≤ (clGo ((sh1 s).2.1.length - 1) (sh1 s)).1.length; omega⟩

/-! shapes with nodes that change nothing -/
def exK : List Int := [9, 10, 11, 15]
def exKind (s : SrcD) : Int := (exK[(pickV s 4).toNat]?).getD 0
--B exVal Int → Int → Nat
def exVal (k v : Int) : Nat := bif k == 10 || k == 11 then fadd .f32 (FloatKind.f32.nearest v) 1065353216 else FloatKind.f32.nearest v
abbrev ExD := ShapeD × SrcD
def exGoes (q : ExD) : Bool := decide (q.1.length < 16) && pickV q.2 2 == 0
def exAfter (q : ExD) : SrcD := bif decide (q.1.length < 16) then pickS q.2 2 else q.2
def exN (q : ExD) : NodeD := (exKind (pickS q.2 2), (q.1.length : Int) - 1, 0, List.replicate (kindN (exKind (pickS q.2 2))).toNat (exVal (exKind (pickS q.2 2)) (pickV (pickS (pickS q.2 2) 4) 2)))
def exStep (q : ExD) : ExD := (q.1 ++ [exN q], pickS (pickS (pickS q.2 2) 4) 2)
def exGo : Nat → ExD → ExD
  | 0, q => q
  | n + 1, q => bif exGoes q then exGo n (exStep q) else (q.1, exAfter q)
def ex0 (s : SrcD) : ExD := (shapeV s, shapeS s)
--B exV SrcD → List (Int × Int × Int × List Nat)
def exV (s : SrcD) : ShapeD := (exGo 16 (ex0 s)).1
--B exS SrcD → SrcD
def exS (s : SrcD) : SrcD := (exGo 16 (ex0 s)).2
structure ExOk (q : ExD) : Prop where
  st : Stack q.1 [(q.1.length : Int) - 1]
  b : bytes q.2.1
  lo : 1 ≤ q.1.length
  hi : q.1.length ≤ 16
  t : turnsB q.1 = true
end Go.Proofs.Ytfhpmcdbfebflaa

/- What the laws draw: shapes with nodes that change nothing, rays, marches: walks. -/
set_option linter.unusedVariables false
set_option linter.unusedSimpArgs false
set_option maxRecDepth 100000
namespace Go.Proofs.Ytfhpmcdbfebflaa
open Go.Ev Go.Ev.Fl

/-! spec.l05DrawShape -/
/-! spec.B10Shape -/
end Go.Proofs.Ytfhpmcdbfebflaa

/- What the laws of the second kind draw: points, shapes, shapes of few nodes. -/
set_option linter.unusedVariables false
set_option linter.unusedSimpArgs false
set_option maxRecDepth 100000
namespace Go.Proofs.Ytfhpmcdbfebflaa
open Go.Ev Go.Ev.Fl

/-! laws.r8Long -/
noncomputable def c_laws_r8Long : Ctx := mkC Try.prog tyT [] [] [] 13 (fun _ => none) 0
theorem w_laws_r8Long (xs ys : List Int) (K : V → Heap → Prop) : wpFn c_laws_r8Long Try.f24 (encAs [.cell tB, .cell tB] (xs, ys, ())) [] K =
  cond (decide ((↑(List.length xs) : Int) > 48))
    (K (.bool true) [])
    (K (.bool (decide ((↑(List.length ys) : Int) > 48))) []) := by kernel_rfl
noncomputable def s_laws_r8Long : Sm := semT [.cell tB, .cell tB] fun x => match x with | (xs, ys, _) => .bool (decide (48 < xs.length) || decide (48 < ys.length))
theorem ok_laws_r8Long : FnOk Try.prog 24 s_laws_r8Long := fnOk_typed (fnOk_runC (C := c_laws_r8Long) rfl mixed .nil .nil .nil Try.func24 (by kernel_rfl)) fun (x : ((List Int) × (List Int) × Unit)) wf K h => by
  obtain ⟨xs, ys, ⟨⟩⟩ := x
  replace h : K (.bool (decide (48 < xs.length) || decide (48 < ys.length))) [] := h
  rw [w_laws_r8Long xs ys K]
  have e : ∀ n : Nat, decide ((n : Int) > 48) = decide (48 < n) := fun n => decide_eq_decide.2 (by omega)
  rw [e, e]
  cases h1 : decide (48 < xs.length) <;> rw [h1] at h <;> exact h

--B atV List Int → Int → Int → Int
def atV (xs : List Int) (k n : Int) : Int := bif decide (n ≤ 1) || decide ((xs.length : Int) ≤ k) then 0 else ((xs[k.toNat]?).getD 0).tmod n
/-! laws.r8At -/
noncomputable def c_laws_r8At : Ctx := mkC Try.prog tyT [] [] [] 22 (fun _ => none) 0
theorem w_laws_r8At (xs : List Int) (k n : Int) (K : V → Heap → Prop) : wpFn c_laws_r8At Try.f31 (encAs [.cell tB, .cell (.int .i64), .cell (.int .i64)] (xs, k, n, ())) [] K =
  cond (decide (n ≤ 1))
    (K (.int .i64 0) [])
    (cond (decide (k ≥ (↑(List.length xs) : Int)))
      (K (.int .i64 0) [])
      (cond (decide (0 ≤ k))
        ((match xs[Int.toNat k]? with
          | some y0 => cond (n == 0)
            (False)
            (K (.int .i64 (Int.tmod (IntKind.wrap IntKind.i64 y0) n)) [])
          | none => False))
        (False))) := by kernel_rfl
noncomputable def s_laws_r8At : Sm := semG [.cell tB, .cell (.int .i64), .cell (.int .i64)] (fun x => match x with | (xs, k, n, _) => decide (0 ≤ k)) fun x => match x with | (xs, k, n, _) => .int .i64 (atV xs k n)
theorem ok_laws_r8At : FnOk Try.prog 31 s_laws_r8At := fnOk_typedG (fnOk_runC (C := c_laws_r8At) rfl mixed .nil .nil .nil Try.func31 (by kernel_rfl)) fun (x : ((List Int) × (Int) × (Int) × Unit)) wf hg K h => by
  obtain ⟨xs, k, n, ⟨⟩⟩ := x
  replace hg : (decide (0 ≤ k)) = true := hg
  replace h : K (.int .i64 (atV xs k n)) [] := h
  rw [w_laws_r8At xs k n K]
  have hk := of_decide_eq_true hg
  unfold atV at h
  by_cases h1 : n ≤ 1
  · rw [d_t h1] at h ⊢; exact h
  · rw [d_f h1] at h ⊢
    simp only [Bool.false_or, cond_false] at h ⊢
    rw [show decide (k ≥ (xs.length : Int)) = decide ((xs.length : Int) ≤ k) from rfl]
    by_cases h2 : (xs.length : Int) ≤ k
    · rw [d_t h2] at h ⊢; exact h
    · rw [d_f h2] at h ⊢
      simp only [cond_false] at h ⊢
      have hl : k.toNat < xs.length := by omega
      rw [d_t hk, get_lt hl] at *
      have hb := bytes_of wf.1 _ (List.getElem_mem hl)
      simp only [cond_true, Option.getD_some] at h ⊢
      rw [beq_eq_false_iff_ne.2 (show n ≠ 0 by omega), i64_of (by omega) (by omega)]
      exact h

theorem atV_range {xs : List Int} (hb : bytes xs) {k n : Int} (hn : 1 ≤ n) : 0 ≤ atV xs k n ∧ atV xs k n < n := by
  unfold atV
  cases decide (n ≤ 1) || decide ((xs.length : Int) ≤ k) with
  | true => simp only [cond_true]; omega
  | false =>
    simp only [cond_false]
    have pos : ∀ x : Int, 0 ≤ x → 0 ≤ x.tmod n ∧ x.tmod n < n := fun x hx => ⟨Int.tmod_nonneg _ hx, Int.tmod_lt_of_pos _ (by omega)⟩
    refine pos _ ?_
    cases e : xs[k.toNat]? with
    | none => simp
    | some b => exact (hb b (List.mem_of_getElem? e)).1

--B pointV List Int → Nat × Nat × Nat
def pointV (xs : List Int) : V3 := (smallV (xs, 0, 0), smallV (smallS (xs, 0, 0)), smallV (smallS (smallS (xs, 0, 0))))
/-! spec.R8Point -/
noncomputable def c_spec_R8Point : Ctx := mkC Try.prog tyT [] [] [(67, s_spec_l00From), (69, s_spec_l01DrawSmall)] 17 (fun _ => none) 0
theorem w_spec_R8Point (xs : List Int) (K : V → Heap → Prop) : wpFn c_spec_R8Point Try.f26 (encAs [.cell tB] (xs, ())) [] K =
  cond (inS 1000000 (xs, 0, 0))
    (cond (inS 1000000 (smallS (xs, 0, 0)))
      (cond (inS 1000000 (smallS (smallS (xs, 0, 0))))
        (K (.agg [(.float .f32 (smallV (xs, 0, 0))), (.float .f32 (smallV (smallS (xs, 0, 0)))), (.float .f32 (smallV (smallS (smallS (xs, 0, 0)))))]) [])
        (False))
      (False))
    (False) := by kernel_rfl
noncomputable def s_spec_R8Point : Sm := semT [.cell tB] fun x => match x with | (xs, _) => .agg (enc tV (pointV xs))
theorem ok_spec_R8Point : FnOk Try.prog 26 s_spec_R8Point := fnOk_typed (fnOk_runC (C := c_spec_R8Point) rfl mixed .nil .nil (.cons ok_spec_l00From (.cons ok_spec_l01DrawSmall .nil)) Try.func26 (by kernel_rfl)) fun (x : ((List Int) × Unit)) wf K h => by
  obtain ⟨xs, ⟨⟩⟩ := x
  replace h : K (.agg (enc tV (pointV xs))) [] := h
  rw [w_spec_R8Point xs K]
  have g0 : inS 0 (xs, 0, 0) = true := inS_iff.2 ⟨Int.le_refl _, Int.le_refl _⟩
  have F1 := far_small (xs, 0, 0)
  have F2 := F1.trans (far_small (smallS (xs, 0, 0)))
  have a0 : inS 1000000 (xs, 0, 0) = true := (Far.refl (xs, 0, 0)).ok g0 (by omega)
  have a1 : inS 1000000 (smallS (xs, 0, 0)) = true := F1.ok g0 (by omega)
  have a2 : inS 1000000 (smallS (smallS (xs, 0, 0))) = true := F2.ok g0 (by omega)
  refine cond_yes a0 (cond_yes a1 (cond_yes a2 ?_))
  exact h

/-! spec.R8Shape -/
noncomputable def c_spec_R8Shape : Ctx := mkC Try.prog tyT [] [] [(67, s_spec_l00From), (82, s_spec_l02DrawOk)] 8 (fun _ => none) 0
theorem w_spec_R8Shape (xs : List Int) (K : V → Heap → Prop) : wpFn c_spec_R8Shape Try.f25 (encAs [.cell tB] (xs, ())) [] K =
  cond (inS 500000 (xs, 0, 0))
    (K (.agg [(.vec tN (shapeV (xs, 0, 0)))]) [])
    (False) := by kernel_rfl
noncomputable def s_spec_R8Shape : Sm := semT [.cell tB] fun x => match x with | (xs, _) => .agg [.vec tN (shapeV (xs, 0, 0))]
theorem ok_spec_R8Shape : FnOk Try.prog 25 s_spec_R8Shape := fnOk_typed (fnOk_runC (C := c_spec_R8Shape) rfl mixed .nil .nil (.cons ok_spec_l00From (.cons ok_spec_l02DrawOk .nil)) Try.func25 (by kernel_rfl)) fun (x : ((List Int) × Unit)) wf K h => by
  obtain ⟨xs, ⟨⟩⟩ := x
  replace h : K (.agg [.vec tN (shapeV (xs, 0, 0))]) [] := h
  rw [w_spec_R8Shape xs K]
  exact cond_yes (by rw [inS_iff]; exact ⟨Int.le_refl _, by show (0 : Int) ≤ _; decide⟩) h

/-! shapes of few nodes -/
/-! spec.l02Below -/
/-! spec.l02Keep -/
--B fewV SrcD → List (Int × Int × Int × List Nat)
def fewV (s : SrcD) : ShapeD := bif decide (7 < (shapeV s).length) then [nodeAt (shapeV s) 0] else shapeV s
/-! spec.R8Few -/
end Go.Proofs.Ytfhpmcdbfebflaa

