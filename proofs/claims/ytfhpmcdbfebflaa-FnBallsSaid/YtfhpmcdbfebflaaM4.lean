/- Merged texts: FlH FlI FlJ EvFlr FlK FlS FlR EvEven Sine Dist Dis2 Dis3 Ray ShT ShX B10 Nor Bal. -/
import Derived.Test.YtfhpmcdbfebflaaM3
/- Floats as rational numbers: square roots. -/
set_option linter.unusedVariables false
set_option linter.unusedSimpArgs false
namespace Go.Ev
open Ieee

theorem sq_le {a b : Rat} (ha : 0 ≤ a) (h : a ≤ b) : a * a ≤ b * b := by
  have h1 := Rat.mul_le_mul_of_nonneg_left h ha
  have h2 := Rat.mul_le_mul_of_nonneg_right h (show 0 ≤ b by grind)
  grind
theorem sq_lt {a b : Rat} (ha : 0 ≤ a) (h : a < b) : a * a < b * b := by
  have h1 := Rat.mul_le_mul_of_nonneg_left (Rat.le_of_lt h) ha
  have h2 := Rat.mul_lt_mul_of_pos_right h (show 0 < b by grind)
  grind
theorem le_of_sq {a b : Rat} (hb : 0 ≤ b) (h : a * a ≤ b * b) : a ≤ b := by
  refine Rat.not_lt.1 fun c => ?_
  have := sq_lt hb c
  grind
theorem lt_of_sq {a b : Rat} (hb : 0 ≤ b) (h : a * a < b * b) : a < b := by
  refine Rat.not_le.1 fun c => ?_
  have := sq_le hb c
  grind

namespace Fl
/-- A rung is nearest to a number's square root. -/
structure SNear (f : Format) (q : Rat) (r : Nat) : Prop where
  inf : r ≤ f.infRung
  lo : ∀ t, t ≤ f.infRung → mg f t * mg f t ≤ q → t ≤ r
  hi : ∀ t, q ≤ mg f t * mg f t → r ≤ t
  lt : ∀ t, t < f.infRung → 4 * q < (mg f t + mg f (t + 1)) * (mg f t + mg f (t + 1)) → r ≤ t
  gt : ∀ t, t < f.infRung → (mg f t + mg f (t + 1)) * (mg f t + mg f (t + 1)) < 4 * q → t + 1 ≤ r
  tie : ∀ t, t < f.infRung → 4 * q = (mg f t + mg f (t + 1)) * (mg f t + mg f (t + 1)) → r = t + t % 2
theorem SNear.of {f : Format} {x q : Rat} {r : Nat} (h : Near f x r) (hx : 0 ≤ x) (e : q = x * x) : SNear f q r := by
  have nn := mg_nonneg f
  subst e
  refine ⟨h.inf, fun t ht c => h.lo t ht (le_of_sq hx c), fun t c => h.hi t (le_of_sq (nn t) c), fun t ht c => h.lt t ht ?_, fun t ht c => h.gt t ht ?_, fun t ht c => h.tie t ht ?_⟩
  · have a1 := nn t
    have a2 := nn (t + 1)
    exact lt_of_sq (by grind) (by grind)
  · exact lt_of_sq (by grind) (by grind)
  · have a1 := nn t
    have a2 := nn (t + 1)
    exact Rat.le_antisymm (le_of_sq (by grind) (by grind)) (le_of_sq (by grind) (by grind))
theorem SNear.between {f : Format} {x q lo hi : Rat} {r : Nat} (h : Near f x r) (h0 : 0 ≤ lo) (h1 : ∀ t, mg f t ≤ lo ∨ hi ≤ mg f t) (h2 : ∀ t, mg f t + mg f (t + 1) ≤ 2 * lo ∨ 2 * hi ≤ mg f t + mg f (t + 1))
    (x1 : lo < x) (x2 : x < hi) (a1 : lo * lo < q) (a2 : q < hi * hi) : SNear f q r := by
  have nn := mg_nonneg f
  have hhi : 0 ≤ hi := by grind
  refine ⟨h.inf, fun t ht e => h.lo t ht ?_, fun t e => h.hi t ?_, fun t ht e => h.lt t ht ?_, fun t ht e => h.gt t ht ?_, fun t ht e => ?_⟩
  · rcases h1 t with g | g
    · grind
    · have := sq_le hhi g; grind
  · rcases h1 t with g | g
    · have := sq_le (nn t) g; grind
    · grind
  · have b1 := nn t
    have b2 := nn (t + 1)
    rcases h2 t with g | g
    · have := sq_le (by grind) g; grind
    · grind
  · rcases h2 t with g | g
    · grind
    · have := sq_le (show 0 ≤ 2 * hi by grind) g; grind
  · have b1 := nn t
    have b2 := nn (t + 1)
    rcases h2 t with g | g
    · have := sq_le (by grind) g; grind
    · have := sq_le (show 0 ≤ 2 * hi by grind) g; grind
theorem SNear.mono {f : Format} {a b : Rat} {r s : Nat} (h1 : SNear f a r) (h2 : SNear f b s) (h : a ≤ b) : r ≤ s := by
  have nn := mg_nonneg f
  refine Nat.le_of_not_lt fun hlt => ?_
  have i1 := h1.inf
  have x1 : b < mg f (s + 1) * mg f (s + 1) := Rat.not_le.1 fun hc => by have := h2.lo _ (by omega) hc; omega
  have x2 : mg f (r - 1) * mg f (r - 1) < a := Rat.not_le.1 fun hc => by have := h1.hi _ hc; omega
  have x3 : mg f (r - 1) < mg f (s + 1) := lt_of_sq (nn _) (by grind)
  have x4 := lt_of_mg f x3
  have e : r = s + 1 := by omega
  subst e
  have y1 : ¬ 4 * a < (mg f s + mg f (s + 1)) * (mg f s + mg f (s + 1)) := fun hc => by have := h1.lt s (by omega) hc; omega
  have y2 : ¬ (mg f s + mg f (s + 1)) * (mg f s + mg f (s + 1)) < 4 * b := fun hc => by have := h2.gt s (by omega) hc; omega
  have z1 := h1.tie s (by omega) (by grind)
  have z2 := h2.tie s (by omega) (by grind)
  omega

theorem rootFrom_spec (n : Nat) : ∀ (todo root : Nat), root * root ≤ n → n < (root + 2 ^ todo) * (root + 2 ^ todo) →
    Datum.rootFrom n todo root * Datum.rootFrom n todo root ≤ n ∧ n < (Datum.rootFrom n todo root + 1) * (Datum.rootFrom n todo root + 1)
  | 0, root, h1, h2 => ⟨h1, h2⟩
  | todo + 1, root, h1, h2 => by
    unfold Datum.rootFrom
    simp only [Nat.shiftLeft_eq, Nat.one_mul]
    have e : 2 ^ (todo + 1) = 2 ^ todo + 2 ^ todo := by rw [Nat.pow_succ]; omega
    rw [e, ← Nat.add_assoc] at h2
    by_cases h : (root + 2 ^ todo) * (root + 2 ^ todo) ≤ n
    · rw [if_pos h]; exact rootFrom_spec n todo _ h h2
    · rw [if_neg h]; exact rootFrom_spec n todo _ h1 (by omega)
theorem root_spec (n : Nat) : Datum.rootFrom n (n.log2 / 2 + 1) 0 * Datum.rootFrom n (n.log2 / 2 + 1) 0 ≤ n ∧ n < (Datum.rootFrom n (n.log2 / 2 + 1) 0 + 1) * (Datum.rootFrom n (n.log2 / 2 + 1) 0 + 1) := by
  refine rootFrom_spec n _ 0 (Nat.zero_le _) ?_
  rw [Nat.zero_add, ← Nat.pow_add]
  have h1 : n < 2 ^ (n.log2 + 1) := Nat.lt_log2_self
  exact Nat.lt_of_lt_of_le h1 (Nat.pow_le_pow_right (by omega) (by omega))

theorem pw_sq (e : Int) : pw e * pw e = pw (2 * e) := by rw [← pw_add]; congr 1; omega

/-- The root of a positive word. -/
theorem fsqrt_pos {k : FloatKind} {x : Nat} (hx : fin k x = true) (h0 : 0 < ev k x) : ∃ r, fsqrt k x = k.format.word false r ∧ SNear k.format (ev k x) r := by
  obtain ⟨m, i, h1, h2⟩ := read_fin hx
  have hs : sg k x = false := by
    cases e : sg k x with
    | false => rfl
    | true =>
      unfold ev at h0
      rw [e] at h0
      have := mg_nonneg k.format (rung k x)
      simp only [sgd, cond_true] at h0
      grind
  have hev : ev k x = (m : Rat) * pw i := by
    unfold ev
    rw [hs, h2]; rfl
  have hm : m ≠ 0 := by
    intro e
    subst e
    rw [hev] at h0
    have : ((0 : Nat) : Rat) * pw i = 0 := Rat.zero_mul _
    grind
  rw [hs] at h1
  unfold fsqrt Format.sqrt
  rw [h1]
  simp only [Datum.root, if_neg hm, Bool.false_eq_true, if_false, Option.map_some, orNan, Format.write]
  generalize hd : k.format.fractionBits + 2 = d
  generalize hmore : 2 * d - m.log2 + ((i - ((2 * d - m.log2 : Nat) : Int)) % 2).toNat = more
  have hev2 : (i - more) % 2 = 0 := by omega
  obtain ⟨j, hj⟩ : ∃ j : Int, i - more = 2 * j := ⟨(i - more) / 2, by omega⟩
  have hj2 : (i - (more : Int)) / 2 = j := by omega
  rw [hj2, Nat.shiftLeft_eq]
  obtain ⟨w1, w2⟩ := root_spec (m * 2 ^ more)
  have hlog : 2 ^ (2 * d) ≤ m * 2 ^ more := by
    have a1 : 2 ^ m.log2 ≤ m := Nat.log2_self_le hm
    have a2 : 2 ^ (2 * d) ≤ 2 ^ (m.log2 + more) := Nat.pow_le_pow_right (by omega) (by omega)
    rw [Nat.pow_add] at a2
    exact Nat.le_trans a2 (Nat.mul_le_mul_right _ a1)
  -- the number in units
  have hq : ev k x = ((m * 2 ^ more : Nat) : Rat) * pw (2 * j) := by
    rw [hev, Rat.natCast_mul, ← pw_nat, Rat.mul_assoc, ← pw_add]
    congr 2
    omega
  generalize hnn : m * 2 ^ more = n at *
  generalize Datum.rootFrom n (n.log2 / 2 + 1) 0 = w at *
  have hwd : 2 ^ d ≤ w := by
    refine Nat.le_of_not_lt fun c => ?_
    have : (w + 1) * (w + 1) ≤ 2 ^ d * 2 ^ d := Nat.mul_le_mul c c
    rw [← Nat.pow_add, show d + d = 2 * d by omega] at this
    omega
  refine ⟨_, nearest_eq _ _ _ _, ?_⟩
  have hu := pw_pos (j - 1)
  have hsq : pw (2 * j) = (2 * pw (j - 1)) * (2 * pw (j - 1)) := by
    rw [← pw_succ, pw_sq]; congr 1; omega
  have c2 : ∀ a : Nat, ((2 * a : Nat) : Rat) = 2 * (a : Rat) := fun a => by rw [Rat.natCast_mul]; rfl
  have hw0 : (0 : Rat) ≤ (w : Rat) := Rat.natCast_nonneg
  have hwu := Rat.mul_nonneg hw0 (Rat.le_of_lt hu)
  by_cases hr : w * w = n
  · have hb : (w * w != n).toNat = 0 := by rw [hr, bne_self_eq_false]; rfl
    rw [hb, Nat.add_zero]
    refine SNear.of (rg_near (even_k k) (2 * w) (j - 1)) ?_ ?_
    · exact Rat.mul_nonneg Rat.natCast_nonneg (Rat.le_of_lt hu)
    · rw [hq, hsq, ← hr, Rat.natCast_mul, c2]
      grind
  · have hb : (w * w != n).toNat = 1 := by rw [bne_iff_ne.2 hr]; rfl
    rw [hb]
    have hS : 2 ^ (k.format.fractionBits + 2) ≤ 2 * w + 1 := by rw [hd]; omega
    obtain ⟨lo, hi, g0, g1, g2, t1, t2⟩ := sticky_gap (f := k.format) (S := 2 * w + 1) (g := j - 1) hS (by omega)
    have cS : ((2 * w + 1 : Nat) : Rat) = 2 * (w : Rat) + 1 := by rw [Rat.natCast_add, c2]; rfl
    rw [cS] at g1 g2
    have hlt : w * w < n := Nat.lt_of_le_of_ne w1 hr
    have n1 : (w : Rat) * (w : Rat) < (n : Rat) := by rw [← Rat.natCast_mul]; exact Rat.natCast_lt_natCast.2 hlt
    have n2 : (n : Rat) < ((w : Rat) + 1) * ((w : Rat) + 1) := by
      have := Rat.natCast_lt_natCast.2 w2
      rw [Rat.natCast_mul, Rat.natCast_add] at this
      exact this
    have p2 : 0 < pw (2 * j) := pw_pos _
    refine SNear.between (x := ((2 * w + 1 : Nat) : Rat) * pw (j - 1)) (rg_near (even_k k) (2 * w + 1) (j - 1)) g0 t1 t2 ?_ ?_ ?_ ?_
    · rw [cS]; grind
    · rw [cS]; grind
    · have a1 := sq_le g0 (show lo ≤ 2 * ((w : Rat) * pw (j - 1)) by grind)
      have a2 := Rat.mul_lt_mul_of_pos_right n1 p2
      rw [← hq, hsq] at a2
      grind
    · have a1 := sq_le (show (0 : Rat) ≤ 2 * (((w : Rat) + 1) * pw (j - 1)) by grind) (show 2 * (((w : Rat) + 1) * pw (j - 1)) ≤ hi by grind)
      have a2 := Rat.mul_lt_mul_of_pos_right n2 p2
      rw [← hq, hsq] at a2
      grind

/-- The root of a word that is not positive. -/
theorem fsqrt_neg {k : FloatKind} {x : Nat} (hx : fin k x = true) (h0 : ev k x < 0) : fsqrt k x = qnan k := by
  obtain ⟨m, i, h1, h2⟩ := read_fin hx
  have nn := mg_nonneg k.format (rung k x)
  have hs : sg k x = true := by
    cases e : sg k x with
    | true => rfl
    | false =>
      unfold ev at h0
      rw [e] at h0
      simp only [sgd, cond_false] at h0
      grind
  have hm : m ≠ 0 := by
    intro e
    subst e
    have : ((0 : Nat) : Rat) * pw i = 0 := Rat.zero_mul _
    unfold ev at h0
    rw [hs, ← h2, this] at h0
    exact absurd h0 (by decide)
  rw [hs] at h1
  unfold fsqrt Format.sqrt
  rw [h1]
  simp only [Datum.root, if_neg hm, if_true, Option.map_none, orNan]
theorem fsqrt_zero {k : FloatKind} {x : Nat} (hx : fin k x = true) (h0 : ev k x = 0) : fsqrt k x = k.format.word (sg k x) 0 := by
  obtain ⟨m, i, h1, h2⟩ := read_fin hx
  have nn := mg_nonneg k.format (rung k x)
  have hm : m = 0 := by
    have : (m : Rat) * pw i = 0 := by
      rw [h2]
      unfold ev at h0
      cases e : sg k x <;> rw [e] at h0 <;> simp only [sgd, cond_true, cond_false] at h0 <;> grind
    rcases Rat.mul_eq_zero.1 this with h | h
    · exact_mod_cast h
    · have := pw_pos i; grind
  subst hm
  unfold fsqrt Format.sqrt
  rw [h1]
  simp only [Datum.root, if_true, Option.map_some, orNan, Format.write, Format.nearest]
/-! ### the root of a 32-bit number, narrowed -/
def rootN (x : Nat) : Nat := narrow (fsqrt .f64 (widen x))
theorem pw64_rung : ∃ t, t < infOf .f64 ∧ mg FloatKind.f64.format t = pw 64 := by
  obtain ⟨t, ht⟩ := rep_rung FloatKind.f64.format 1138 1 (by decide)
  have e : ((1 : Nat) : Rat) * pw (FloatKind.f64.format.leastPlace + (1138 : Nat)) = pw 64 := Rat.one_mul _
  rw [e] at ht
  refine ⟨t, lt_of_mg FloatKind.f64.format ?_, ht⟩
  rw [ht, mg_inf]
  show pw 64 < pw 1024
  have h1 := pw_succ 64
  have h2 := pw_pos 64
  have h3 : pw (64 + 1) ≤ pw 1024 := pw_le (by omega)
  grind
theorem root_fin {x : Nat} {q : Rat} (h : Ex .f32 x q) (h0 : 0 < q) : ∃ r, Ex .f64 (fsqrt .f64 (widen x)) (mg FloatKind.f64.format r) ∧ fsqrt .f64 (widen x) = FloatKind.f64.format.word false r ∧ SNear FloatKind.f64.format q r ∧ Rnd .f32 (mg FloatKind.f64.format r) (rootN x) ∧ ovf (fsqrt .f64 (widen x)) = false ∧ fin .f32 (rootN x) = true := by
  have W := widen_ex h
  obtain ⟨r, h1, h2⟩ := fsqrt_pos W.f (by rw [W.e]; exact h0)
  rw [W.e] at h2
  obtain ⟨t, t1, t2⟩ := pw64_rung
  have hq : q < pw 128 := by
    have a := mg_lt FloatKind.f32.format (fin_iff.1 h.f)
    have : mg FloatKind.f32.format (infOf .f32) = pw 128 := mg_inf .f32
    rw [this] at a
    have e := h.e
    unfold ev at e
    have nn := mg_nonneg FloatKind.f32.format (rung .f32 x)
    cases s : sg .f32 x <;> rw [s] at e <;> simp only [sgd, cond_true, cond_false] at e <;> grind
  have hr : r ≤ t := h2.hi t (by rw [t2, pw_sq]; show q ≤ pw 128; grind)
  have w := word_sg (k := .f64) (s := false) (r := r) (by omega)
  have E : Ex .f64 (fsqrt .f64 (widen x)) (mg FloatKind.f64.format r) := by
    rw [h1]
    refine ⟨fin_iff.2 (by rw [w.2.1]; omega), w.2.2, ?_⟩
    rw [ev_word (by omega)]; rfl
  have N := narrow_rnd E
  have hf : fin .f32 (rootN x) = true := by
    have r64 : Rep .f32 (pw 64) := by
      have := rep_nat (k := .f32) (n := 1) (e := 64) (by decide) (by decide) (by
        rw [mg_inf]
        show ((1 : Nat) : Rat) * pw 64 < pw 128
        have h1 := pw_succ 64
        have h2 := pw_pos 64
        have h3 : pw (64 + 1) ≤ pw 128 := pw_le (by omega)
        have : ((1 : Nat) : Rat) = 1 := rfl
        grind)
      have e : ((1 : Nat) : Rat) * pw 64 = pw 64 := Rat.one_mul _
      rwa [e] at this
    obtain ⟨w64, f1, f2, f3⟩ := r64
    have le : ev .f32 (rootN x) ≤ ev .f32 w64 := N.le (fin_nan f1) f2 (by rw [f3, ← t2]; exact mg_le _ hr)
    have ge : ev .f32 0 ≤ ev .f32 (rootN x) := N.ge (by decide) (by decide) (by rw [(ev_zero (by decide)).2 (.inl rfl)]; exact mg_nonneg _ _)
    have p1 := ev_le_iff.1 le
    have p2 := ev_le_iff.1 ge
    have p3 := (fin_pos (fin_nan f1)).1 f1
    have p4 : pos .f32 0 = 0 := by decide +kernel
    exact (fin_pos N.nan).2 (by show _ < pos .f32 (rootN x) ∧ pos .f32 (rootN x) < _; omega)
  exact ⟨r, E, h1, h2, N, ovf_false E hf, hf⟩
theorem ovf_qnan : ovf (qnan .f64) = false := by decide +kernel
/-- A root is never too great. -/
theorem root_ovf {x : Nat} (hl : x < 2 * signOf .f32) (hc : canon .f32 x = x) : ovf (fsqrt .f64 (widen x)) = false := by
  cases hn : nan .f32 x with
  | true =>
    rw [canon_nan hn] at hc
    subst hc
    decide +kernel
  | false =>
    by_cases hf : fin .f32 x = true
    · have X : Ex .f32 x (ev .f32 x) := ⟨hf, hl, rfl⟩
      have W := widen_ex X
      by_cases h1 : 0 < ev .f32 x
      · exact (root_fin X h1).choose_spec.2.2.2.2.1
      · by_cases h2 : ev .f32 x < 0
        · rw [fsqrt_neg W.f (by rw [W.e]; exact h2)]; exact ovf_qnan
        · have h3 : ev .f32 x = 0 := by grind
          rw [fsqrt_zero W.f (by rw [W.e]; exact h3)]
          cases sg .f64 (widen x) <;> decide +kernel
    · have hr := nan_false.1 hn
      have hri : rung .f32 x = infOf .f32 := by
        have : ¬ rung .f32 x < infOf .f32 := fun c => hf (fin_iff.2 c)
        omega
      rcases x_cases hl with ⟨_, b⟩ | ⟨_, b⟩
      · rw [hri] at b; subst b; decide +kernel
      · rw [hri] at b; subst b; decide +kernel

end Fl
end Go.Ev

/- Floats as rational numbers: numbers of few binary digits, which are exact. -/
set_option linter.unusedVariables false
set_option linter.unusedSimpArgs false
namespace Go.Ev
open Ieee

namespace Fl
/-- A number with at most s binary digits behind the point, at most b of their units. -/
def Gr (s b : Nat) (q : Rat) : Prop := ∃ n : Int, q * ((2 ^ s : Nat) : Rat) = n ∧ n.natAbs ≤ b
theorem Gr.le {s b c : Nat} {q : Rat} (h : Gr s b q) (hb : b ≤ c) : Gr s c q := by
  obtain ⟨n, h1, h2⟩ := h
  exact ⟨n, h1, by omega⟩
theorem Gr.up {s b : Nat} {q : Rat} (h : Gr s b q) (t : Nat) : Gr (s + t) (b * 2 ^ t) q := by
  obtain ⟨n, h1, h2⟩ := h
  refine ⟨n * ((2 ^ t : Nat) : Int), ?_, ?_⟩
  · rw [Nat.pow_add, Rat.natCast_mul, Rat.intCast_mul, ← h1, Rat.mul_assoc]; rfl
  · rw [Int.natAbs_mul, Int.natAbs_natCast]
    exact Nat.mul_le_mul_right _ h2
theorem Gr.add {s b c : Nat} {p q : Rat} (h : Gr s b p) (h' : Gr s c q) : Gr s (b + c) (p + q) := by
  obtain ⟨n, h1, h2⟩ := h
  obtain ⟨m, h3, h4⟩ := h'
  exact ⟨n + m, by rw [Rat.add_mul, h1, h3, Rat.intCast_add], by omega⟩
theorem Gr.sub {s b c : Nat} {p q : Rat} (h : Gr s b p) (h' : Gr s c q) : Gr s (b + c) (p - q) := by
  obtain ⟨n, h1, h2⟩ := h
  obtain ⟨m, h3, h4⟩ := h'
  exact ⟨n - m, by rw [Rat.intCast_sub, ← h1, ← h3]; grind, by omega⟩
theorem Gr.neg {s b : Nat} {p : Rat} (h : Gr s b p) : Gr s b (-p) := by
  obtain ⟨n, h1, h2⟩ := h
  exact ⟨-n, by rw [Rat.intCast_neg, ← h1, Rat.neg_mul], by omega⟩
theorem Gr.mul {s t b c : Nat} {p q : Rat} (h : Gr s b p) (h' : Gr t c q) : Gr (s + t) (b * c) (p * q) := by
  obtain ⟨n, h1, h2⟩ := h
  obtain ⟨m, h3, h4⟩ := h'
  refine ⟨n * m, ?_, ?_⟩
  · rw [Nat.pow_add, Rat.natCast_mul, Rat.intCast_mul, ← h1, ← h3]; grind
  · rw [Int.natAbs_mul]
    exact Nat.mul_le_mul h2 h4
theorem Gr.int (n : Int) {b : Nat} (h : n.natAbs ≤ b) : Gr 0 b (n : Rat) := ⟨n, by rw [Nat.pow_zero]; exact Rat.mul_one _, h⟩
theorem Gr.zero (s b : Nat) : Gr s b 0 := ⟨0, by rw [Rat.zero_mul]; rfl, by omega⟩
theorem Gr.rep32 {s b : Nat} {q : Rat} (h : Gr s b q) (hb : b ≤ 16777216) (hs : s ≤ 149) : Rep .f32 q := by
  obtain ⟨n, h1, h2⟩ := h
  exact Fl.rep32 n s h1 (by omega) hs
/-- A 32-bit word that stands for such a number. -/
structure Q (s b : Nat) (x : Nat) (q : Rat) : Prop where
  x : Ex .f32 x q
  g : Gr s b q
section
variable {s t b c x y : Nat} {p q : Rat}
theorem Q.le (h : Q s b x q) (hb : b ≤ c) : Q s c x q := ⟨h.x, h.g.le hb⟩
theorem Q.up (h : Q s b x q) (t : Nat) : Q (s + t) (b * 2 ^ t) x q := ⟨h.x, h.g.up t⟩
theorem Q.as (h : Q s b x p) (e : p = q) : Q s b x q := e ▸ h
theorem Q.add (h : Q s b x p) (h' : Q s c y q) (hb : b + c ≤ 16777216) (hs : s ≤ 149) : Q s (b + c) (fadd .f32 x y) (p + q) :=
  ⟨h.x.add h'.x ((h.g.add h'.g).rep32 hb hs), h.g.add h'.g⟩
theorem Q.sub (h : Q s b x p) (h' : Q s c y q) (hb : b + c ≤ 16777216) (hs : s ≤ 149) : Q s (b + c) (fsub .f32 x y) (p - q) :=
  ⟨h.x.sub h'.x ((h.g.sub h'.g).rep32 hb hs), h.g.sub h'.g⟩
theorem Q.mul (h : Q s b x p) (h' : Q t c y q) (hb : b * c ≤ 16777216) (hs : s + t ≤ 149) : Q (s + t) (b * c) (fmul .f32 x y) (p * q) :=
  ⟨h.x.mul h'.x ((h.g.mul h'.g).rep32 hb hs), h.g.mul h'.g⟩
theorem Q.neg (h : Q s b x p) : Q s b (fneg .f32 x) (-p) := ⟨h.x.neg, h.g.neg⟩
end

/-- What a word of a known magnitude stands for. -/
theorem ev_lit {k : FloatKind} {x : Nat} (s : Bool) (p j : Nat) (hj : j ≤ 2 * k.format.binade) (h : p = 0 ∨ k.format.binade ≤ j) (hx : x = k.format.word s (p * k.format.binade + j)) (hr : p * k.format.binade + j ≤ infOf k) :
    ev k x = sgd s ((j : Rat) * pw (k.format.leastPlace + p)) := by
  rw [hx, ev_word hr, mg_at k.format p j hj h]
theorem q_zero : Q 0 0 0 0 := ⟨⟨by decide, by decide, (ev_zero (by decide)).2 (.inl rfl)⟩, Gr.zero 0 0⟩
end Fl
end Go.Ev

/- Floats as rational numbers: sums of lists. -/
set_option linter.unusedVariables false
set_option linter.unusedSimpArgs false
namespace Go.Ev
open Ieee

namespace Fl
def rsum : List Rat → Rat
  | [] => 0
  | q :: qs => q + rsum qs
/-- Words that stand for the numbers of a list. -/
inductive QL (s b : Nat) : List Nat → List Rat → Prop
  | nil : QL s b [] []
  | cons {x : Nat} {q : Rat} {xs : List Nat} {qs : List Rat} : Q s b x q → QL s b xs qs → QL s b (x :: xs) (q :: qs)
theorem QL.length {s b : Nat} {xs : List Nat} {qs : List Rat} (h : QL s b xs qs) : xs.length = qs.length := by
  induction h with
  | nil => rfl
  | cons _ _ ih => simp [ih]
theorem QL.take {s b : Nat} {xs : List Nat} {qs : List Rat} (h : QL s b xs qs) (n : Nat) : QL s b (xs.take n) (qs.take n) := by
  induction h generalizing n with
  | nil => simp; exact .nil
  | cons h1 _ ih =>
    cases n with
    | zero => exact .nil
    | succ n => exact .cons h1 (ih n)
theorem QL.drop {s b : Nat} {xs : List Nat} {qs : List Rat} (h : QL s b xs qs) (n : Nat) : QL s b (xs.drop n) (qs.drop n) := by
  induction h generalizing n with
  | nil => simp; exact .nil
  | cons h1 h2 ih =>
    cases n with
    | zero => exact .cons h1 h2
    | succ n => exact ih n
theorem QL.snoc {s b : Nat} {xs : List Nat} {qs : List Rat} {x : Nat} {q : Rat} (h : QL s b xs qs) (h' : Q s b x q) : QL s b (xs ++ [x]) (qs ++ [q]) := by
  induction h with
  | nil => exact .cons h' .nil
  | cons h1 _ ih => exact .cons h1 ih

def fsumL (xs : List Nat) : Nat := xs.foldl (fun a x => fadd .f32 a x) 0
theorem QL.foldl {s b : Nat} {xs : List Nat} {qs : List Rat} (h : QL s b xs qs) : ∀ {c a : Nat} {p : Rat}, Q s c a p → c + b * xs.length ≤ 16777216 → s ≤ 149 → Q s (c + b * xs.length) (xs.foldl (fun a x => fadd .f32 a x) a) (p + rsum qs) := by
  induction h with
  | nil =>
    intro c a p ha _ _
    exact (ha.le (by omega)).as (Rat.add_zero p).symm
  | @cons x q xs qs h1 _ ih =>
    intro c a p ha hb hs
    have e : b * (x :: xs).length = b + b * xs.length := by rw [List.length_cons, Nat.mul_add]; omega
    rw [e] at hb ⊢
    have := ih (ha.add h1 (by omega) hs) (by omega) hs
    refine (this.le (by omega)).as ?_
    simp only [rsum]
    grind
theorem QL.sum {b : Nat} {xs : List Nat} {qs : List Rat} (h : QL 0 b xs qs) (hb : b * xs.length ≤ 16777216) : Q 0 (b * xs.length) (fsumL xs) (rsum qs) :=
  ((h.foldl (q_zero) (by omega) (by omega)).le (by omega)).as (Rat.zero_add _)

end Fl
end Go.Ev

/- Functions of 64-bit floats that Go's library leaves without a body: their bits, and wholes. -/
set_option linter.unusedVariables false
set_option linter.unusedSimpArgs false
namespace Go.Ev

/-- math.Float64bits: of a not-a-number nothing is known. -/
def sF64bits : Sm := fun args hs K =>
  match args with
  | [.float .f64 x] => cond (nan .f64 x) (K .undef hs) (K (.int .u64 x) hs)
  | _ => False

theorem ok_F64bits {P : Program} {k : FuncId} {fn : Func} (hf : P.funcs[k]? = some fn) (hname : (fn.name == "runtime.NumGoroutine") = false)
    (hb : fn.body.isNone = true) (hn : Extern.findNext fn = none) (he : Extern.find fn = some Extern.MathFloatBits.float64bits) : FnOk P k sF64bits := by
  refine fnOk_ext hf hname hb hn he ?_
  intro args K h
  unfold sF64bits at h
  split at h
  · rename_i x
    cases hx : nan .f64 x with
    | true =>
      simp only [hx, cond_true] at h
      refine ⟨.undef, h, fun K' h' => by simp only [sF64bits, hx, cond_true]; exact h', ?_⟩
      intro w M cargs hv
      cases hv with
      | cons a b =>
        cases b
        cases a with
        | float _ _ b' h1 h2 => exact ⟨_, w, rfl, Drawn.refl w, .undef _⟩
    | false =>
      simp only [hx, cond_false] at h
      refine ⟨.int .u64 x, h, fun K' h' => by simp only [sF64bits, hx, cond_false]; exact h', ?_⟩
      intro w M cargs hv
      cases hv with
      | cons a b =>
        cases b
        cases a with
        | float _ _ b' h1 h2 =>
          have hb' : nan .f64 b' = false := by rw [h2, nan_canon] at hx; exact hx
          have e : x = b' := by rw [h2, canon_not hb']
          subst e
          refine ⟨.int .u64 x, w, rfl, Drawn.refl w, .int _ _ ?_⟩
          have e1 : IntKind.u64.min = 0 := rfl
          have e2 : IntKind.u64.max = 18446744073709551615 := rfl
          have e3 : 2 * signOf .f64 = 18446744073709551616 := rfl
          omega
  · exact h.elim

/-- math.Float64frombits. -/
def sF64from : Sm := fun args hs K =>
  match args with
  | [.int .u64 n] => K (.float .f64 (canon .f64 n.toNat)) hs
  | _ => False

theorem ok_F64from {P : Program} {k : FuncId} {fn : Func} (hf : P.funcs[k]? = some fn) (hname : (fn.name == "runtime.NumGoroutine") = false)
    (hb : fn.body.isNone = true) (hn : Extern.findNext fn = none) (he : Extern.find fn = some Extern.MathFloatBits.float64frombits) : FnOk P k sF64from := by
  refine fnOk_ext hf hname hb hn he ?_
  intro args K h
  unfold sF64from at h
  split at h
  · rename_i n
    refine ⟨_, h, fun K' h' => h', ?_⟩
    intro w M cargs hv
    cases hv with
    | cons a b =>
      cases b
      cases a with
      | int _ _ hr =>
        have e1 : IntKind.u64.min = 0 := rfl
        have e2 : IntKind.u64.max = 18446744073709551615 := rfl
        have e3 : 2 * signOf .f64 = 18446744073709551616 := rfl
        exact ⟨_, w, rfl, Drawn.refl w, .float _ _ n.toNat (by omega) rfl⟩
  · exact h.elim

/-- A float made whole. -/
def fwhole (way : Ieee.Toward) (x : Nat) : Nat := bif nan .f64 x then qnan .f64 else FloatKind.f64.encode ((FloatKind.f64.decode x).integral way)
def sWhole (way : Ieee.Toward) : Sm := fun args hs K =>
  match args with
  | [.float .f64 x] => cond (nan .f64 x) False (K (.float .f64 (fwhole way x)) hs)
  | _ => False

theorem ok_whole {P : Program} {k : FuncId} {fn : Func} (name : String) (way : Ieee.Toward) (hf : P.funcs[k]? = some fn) (hname : (fn.name == "runtime.NumGoroutine") = false)
    (hb : fn.body.isNone = true) (hn : Extern.findNext fn = none) (he : Extern.find fn = some (Extern.MathFloor.toIntegral name way)) : FnOk P k (sWhole way) := by
  refine fnOk_ext hf hname hb hn he ?_
  intro args K h
  unfold sWhole at h
  split at h
  · rename_i x
    cases hx : nan .f64 x with
    | true => simp only [hx, cond_true] at h
    | false =>
    simp only [hx, cond_false] at h
    refine ⟨_, h, fun K' h' => by simp only [sWhole, hx, cond_false]; exact h', ?_⟩
    intro w M cargs hv
    cases hv with
    | cons a b =>
      cases b
      cases a with
      | float _ _ b' h1 h2 =>
        have hb' : nan .f64 b' = false := by rw [h2, nan_canon] at hx; exact hx
        have e : x = b' := by rw [h2, canon_not hb']
        subst e
        have hd := read_not_nan hx
        have hpl : plainD (((FloatKind.f64.decode x).integral way)) = true := by
          unfold FloatKind.decode
          cases e : FloatKind.f64.format.read x with
          | nan s t => exact absurd e (hd s t)
          | infinity s => rfl
          | number s m p => rfl
        refine ⟨.float .f64 (FloatKind.f64.encode ((FloatKind.f64.decode x).integral way)), w, ?_, Drawn.refl w, ?_⟩
        · have hT : ∀ d, FloatKind.f64.decode x = d → plainD d = true → (Extern.MathFloor.toIntegral name way #[.float .f64 x]) = pure (.float .f64 (FloatKind.f64.encode (d.integral way))) := by
            intro d e hp
            have h0 : (Extern.MathFloor.toIntegral name way #[.float .f64 x]) = (match FloatKind.f64.decode x with
              | .nan s t => (if FloatKind.f64.format.quiet t = t then pure (.float .f64 x) else do
                let kept ← choose (.extern "math.Floor,Ceil,Trunc,RoundToEven.signallingNaN kept" 2)
                pure (.float .f64 (if kept == 1 then x else FloatKind.f64.encode (.nan s (FloatKind.f64.format.quiet t)))))
              | d => pure (.float .f64 (FloatKind.f64.encode (d.integral way)))) := rfl
            rw [h0, e]
            cases d with
            | nan s t => cases hp
            | infinity s => rfl
            | number s m p => rfl
          show (Extern.MathFloor.toIntegral name way #[.float .f64 x]).run P w = _
          rw [hT _ rfl (by
            unfold FloatKind.decode
            cases e : FloatKind.f64.format.read x with
            | nan s t => exact absurd e (hd s t)
            | infinity s => rfl
            | number s m p => rfl)]
          rfl
        · have hn' : nan .f64 (FloatKind.f64.encode ((FloatKind.f64.decode x).integral way)) = false := nan_write hpl
          refine .float _ _ _ ?_ ?_
          · have := FloatKind.f64.format.write_lt ((FloatKind.f64.decode x).integral way)
            rw [← width_eq]
            exact this
          · unfold fwhole
            rw [hx, cond_false, canon_not hn']
  · exact h.elim

end Go.Ev

/- Floats as rational numbers: wholes. -/
set_option linter.unusedVariables false
set_option linter.unusedSimpArgs false
namespace Go.Ev
open Ieee

namespace Fl
theorem div_gap (n d : Nat) : n / 2 ^ min d (n.log2 + 2) = n / 2 ^ d := by
  by_cases h : d ≤ n.log2 + 2
  · rw [Nat.min_eq_left h]
  · rw [Nat.min_eq_right (by omega)]
    have h1 : n < 2 ^ (n.log2 + 1) := Nat.lt_log2_self
    have h2 : 2 ^ (n.log2 + 1) ≤ 2 ^ (n.log2 + 2) := Nat.pow_le_pow_right (by omega) (by omega)
    have h3 : 2 ^ (n.log2 + 1) ≤ 2 ^ d := Nat.pow_le_pow_right (by omega) (by omega)
    rw [Nat.div_eq_of_lt (by omega), Nat.div_eq_of_lt (by omega)]
theorem cut_zero (s : Bool) (n d : Nat) : Toward.zero.cut s n d = n / 2 ^ d := by
  unfold Toward.cut
  simp only [Nat.shiftLeft_eq, Nat.one_mul, Bool.toNat_false, Nat.add_zero]
  exact div_gap n d
/-- A number in its places: what is whole of it. -/
theorem whole_part (m : Nat) (e : Int) : ((m <<< e.toNat / 2 ^ (-e).toNat : Nat) : Rat) ≤ (m : Rat) * pw e ∧ (m : Rat) * pw e < ((m <<< e.toNat / 2 ^ (-e).toNat : Nat) : Rat) + 1 := by
  have hx : (m : Rat) * pw e * ((2 ^ (-e).toNat : Nat) : Rat) = ((m <<< e.toNat : Nat) : Rat) := by
    rw [Nat.shiftLeft_eq, Rat.natCast_mul, ← pw_nat, ← pw_nat, Rat.mul_assoc, ← pw_add]
    congr 2
    omega
  have g0 : (0 : Rat) < ((2 ^ (-e).toNat : Nat) : Rat) := Rat.natCast_pos.2 (Nat.two_pow_pos _)
  have d1 := Nat.div_add_mod (m <<< e.toNat) (2 ^ (-e).toNat)
  have d2 := Nat.mod_lt (m <<< e.toNat) (Nat.two_pow_pos (-e).toNat)
  generalize m <<< e.toNat = n at *
  generalize 2 ^ (-e).toNat = g at *
  have d1 := congrArg (fun z : Nat => (z : Rat)) d1
  simp only [Rat.natCast_add, Rat.natCast_mul] at d1
  have d2 := Rat.natCast_lt_natCast.2 d2
  have d3 : (0 : Rat) ≤ ((n % g : Nat) : Rat) := Rat.natCast_nonneg
  constructor
  · refine Rat.le_of_mul_le_mul_right ?_ g0
    rw [hx]; grind
  · refine Rat.lt_of_mul_lt_mul_right ?_ (Rat.le_of_lt g0)
    rw [hx]; grind
end Fl
end Go.Ev

/- Floats as rational numbers: what a sine computes, where nothing is too great. -/
set_option linter.unusedVariables false
set_option linter.unusedSimpArgs false
set_option maxRecDepth 20000
namespace Go.Ev
open Ieee
namespace Fl
def sinP (u : Nat) : Nat → Nat
  | 0 => 4607182418800017408
  | n + 1 => fsub .f64 4607182418800017408 (fdiv .f64 (fmul .f64 u (sinP u n)) (FloatKind.f64.nearest (2 * (8 - (n : Int)) * (2 * (8 - (n : Int)) + 1))))
def sinO (f : Nat) : Nat := fmul .f64 (fmul .f64 f 4618760256179416344) (sinP (fmul .f64 (fmul .f64 f 4618760256179416344) (fmul .f64 f 4618760256179416344)) 8)

/-! ### the numbers -/
def abs64 (x : Nat) : Nat := x % 9223372036854775808
def sine64 (x : Nat) : Nat :=
  (fun f : Nat => (fun h : Nat => (fun h : Nat => bif fge .f64 f 4602678819172646912 then fneg .f64 (sinO h) else sinO h) (bif fgt .f64 h 4598175219545276416 then fsub .f64 4602678819172646912 h else h))
    (bif fge .f64 f 4602678819172646912 then fsub .f64 f 4602678819172646912 else f)) (bif flt .f64 (widen x) 0 then fadd .f64 (widen x) 4607182418800017408 else widen x)
def sineN (x : Nat) : Nat := narrow (sine64 x)
def sinOk (z : Nat) : Bool := fin .f32 z && (flt .f64 (abs64 (widen z)) 4607182418800017408 && !ovf (sine64 z))
theorem abs_sg (x : Nat) : sg .f64 (abs64 x) = false := by
  have : abs64 x < 9223372036854775808 := Nat.mod_lt _ (by decide)
  unfold sg
  rw [show signOf .f64 = 9223372036854775808 from rfl, Nat.div_eq_of_lt this]; rfl
theorem trunc_small {v : Nat} (hf : fin .f64 v = true) (h1 : -1 < ev .f64 v) (h2 : ev .f64 v < 1) : feq .f64 (fwhole .zero v) 0 = true := by
  obtain ⟨m, e, e1, e2⟩ := read_fin hf
  have nn : 0 ≤ (m : Rat) * pw e := Rat.mul_nonneg Rat.natCast_nonneg (Rat.le_of_lt (pw_pos _))
  have hv : ev .f64 v = sgd (sg .f64 v) ((m : Rat) * pw e) := by rw [e2]; rfl
  have hlt : (m : Rat) * pw e < 1 := by
    rw [hv] at h1 h2
    cases s : sg .f64 v <;> rw [s] at h1 h2 <;> simp only [sgd, cond_true, cond_false] at h1 h2 <;> grind
  obtain ⟨p1, p2⟩ := whole_part m e
  unfold fwhole FloatKind.decode FloatKind.encode
  rw [fin_nan hf, cond_false, e1]
  simp only [Datum.integral, Format.write]
  rw [cut_zero]
  have : m <<< e.toNat / 2 ^ (-e).toNat = 0 := by
    generalize m <<< e.toNat / 2 ^ (-e).toNat = n at *
    have : (n : Rat) < ((1 : Nat) : Rat) := by
      have : ((1 : Nat) : Rat) = 1 := rfl
      grind
    have := Rat.natCast_lt_natCast.1 this
    omega
  rw [this]
  cases sg .f64 v <;> decide +kernel
theorem one_ev : ev .f64 4607182418800017408 = 1 := by
  rw [ev_lit (k := .f64) false 1022 4503599627370496 (by decide) (by decide) (by decide) (by decide)]
  show ((4503599627370496 : Nat) : Rat) * pw (-1074 + 1022) = 1
  unfold pw
  decide +kernel
theorem sinOk_trunc {z : Nat} (h : sinOk z = true) (hl : z < 2 * signOf .f32) : feq .f64 (fwhole .zero (widen z)) 0 = true ∧ nan .f64 (widen z) = false ∧ fge .f64 (abs64 (widen z)) 4841369599423283200 = false ∧ fin .f32 z = true ∧ ovf (sine64 z) = false := by
  unfold sinOk at h
  simp only [Bool.and_eq_true, Bool.not_eq_true'] at h
  obtain ⟨h1, h2, h3⟩ := h
  have hx := widen_ex (b := z) (q := ev .f32 z) ⟨h1, hl, rfl⟩
  have hab : abs64 (widen z) = rung .f64 (widen z) := rfl
  have hrr : rung .f64 (abs64 (widen z)) = rung .f64 (widen z) := by rw [hab]; unfold rung; exact Nat.mod_mod _ _
  have hev : ev .f64 (abs64 (widen z)) = mg FloatKind.f64.format (rung .f64 (widen z)) := by unfold ev; rw [abs_sg, hrr]; rfl
  have hfa : fin .f64 (abs64 (widen z)) = true := by rw [fin_iff, hrr]; exact fin_iff.1 hx.f
  rw [flt_ev (fin_nan hfa) (by decide +kernel), decide_eq_true_eq, one_ev, hev] at h2
  have hw : ev .f64 (widen z) = sgd (sg .f64 (widen z)) (mg FloatKind.f64.format (rung .f64 (widen z))) := rfl
  have h0 := mg_nonneg FloatKind.f64.format (rung .f64 (widen z))
  refine ⟨trunc_small hx.f ?_ ?_, hx.nan, ?_, h1, h3⟩
  · rw [hw]; cases sg .f64 (widen z) <;> simp only [sgd, cond_true, cond_false] <;> grind
  · rw [hw]; cases sg .f64 (widen z) <;> simp only [sgd, cond_true, cond_false] <;> grind
  · have hc : flt .f64 4607182418800017408 4841369599423283200 = true := by decide +kernel
    rw [flt_ev (by decide +kernel) (by decide +kernel), decide_eq_true_eq, one_ev] at hc
    rw [fge_ev (fin_nan hfa) (by decide +kernel), decide_eq_false]
    rw [hev]
    exact Rat.not_le.2 (by grind)
end Fl
end Go.Ev

/- Floats as rational numbers: rounding to a whole number. -/
set_option linter.unusedVariables false
set_option linter.unusedSimpArgs false
namespace Go.Ev
open Ieee

namespace Fl
theorem Rep.up64 {q : Rat} (h : Rep .f32 q) : Rep .f64 q := by
  obtain ⟨w, h1, h2, h3⟩ := h
  exact (widen_ex (b := w) (q := q) ⟨h1, h2, h3⟩).rep
/-- What is far from zero and fits into 32 bits is whole. -/
theorem far_int {q : Rat} (h : Rep .f32 q) (h0 : 0 ≤ q) (hq : (16777216 : Rat) ≤ q) : ∃ k : Nat, q = (k : Rat) := by
  obtain ⟨w, h1, h2, h3⟩ := h
  obtain ⟨m, e, e1, e2, e3, e4⟩ := read_fin2 h1
  have hv : sgd (sg .f32 w) ((m : Rat) * pw e) = q := by rw [e2]; exact h3
  have nn : 0 ≤ (m : Rat) * pw e := Rat.mul_nonneg Rat.natCast_nonneg (Rat.le_of_lt (pw_pos _))
  have hq' : (m : Rat) * pw e = q := by
    cases s : sg .f32 w <;> rw [s] at hv <;> simp only [sgd, cond_true, cond_false] at hv <;> grind
  by_cases he : 0 ≤ e
  · obtain ⟨j, rfl⟩ : ∃ j : Nat, e = (j : Int) := ⟨e.toNat, by omega⟩
    exact ⟨m * 2 ^ j, by rw [← hq', pw_nat, Rat.natCast_mul]⟩
  · exfalso
    have hm : m ≤ 16777215 := by have : 2 * FloatKind.f32.format.binade = 16777216 := by decide
                                 omega
    have hm' : (m : Rat) ≤ 16777215 := by
      have := Rat.natCast_le_natCast.2 hm
      exact this
    have hp : pw e ≤ 1 := by rw [← pw_zero]; exact pw_le (by omega)
    have hp0 := pw_pos e
    have : (m : Rat) * pw e ≤ (m : Rat) * 1 := Rat.mul_le_mul_of_nonneg_left hp Rat.natCast_nonneg
    grind
/-- A 32-bit number rounded to a whole one, to the even one between two. -/
theorem even_ex {v : Nat} {q : Rat} (h : Ex .f64 v q) (hr : Rep .f32 q) : ∃ n : Int, Ex .f64 (fwhole .even v) (n : Rat) ∧ Rep .f32 (n : Rat) ∧ 2 * (n : Rat) ≤ 2 * q + 1 ∧ 2 * q ≤ 2 * (n : Rat) + 1 := by
  obtain ⟨m, e, e1, e2, _⟩ := read_fin2 h.f
  have hv : sgd (sg .f64 v) ((m : Rat) * pw e) = q := by rw [e2]; exact h.e
  have nn : 0 ≤ (m : Rat) * pw e := Rat.mul_nonneg Rat.natCast_nonneg (Rat.le_of_lt (pw_pos _))
  have hx : (m : Rat) * pw e * ((2 ^ (-e).toNat : Nat) : Rat) = ((m <<< e.toNat : Nat) : Rat) := by
    rw [Nat.shiftLeft_eq, Rat.natCast_mul, ← pw_nat, ← pw_nat, Rat.mul_assoc, ← pw_add]
    congr 2
    omega
  obtain ⟨c1, c2, _⟩ := cut_spec (sg .f64 v) (m <<< e.toNat) (-e).toNat
  unfold fwhole FloatKind.decode FloatKind.encode
  rw [h.nan, cond_false, e1]
  simp only [Datum.integral, Format.write]
  generalize Toward.even.cut (sg .f64 v) (m <<< e.toNat) (-e).toNat = c at *
  have g0 : 0 < 2 ^ (-e).toNat := Nat.two_pow_pos _
  have ha : Rep .f32 ((m : Rat) * pw e) := by
    cases s : sg .f64 v <;> rw [s] at hv <;> simp only [sgd, cond_true, cond_false] at hv
    · rw [hv]; exact hr
    · rw [show (m : Rat) * pw e = -q by grind]; exact hr.neg
  generalize m <<< e.toNat = N at *
  generalize 2 ^ (-e).toNat = g at *
  generalize (m : Rat) * pw e = a at *
  have g0' : (0 : Rat) < (g : Rat) := Rat.natCast_pos.2 g0
  have d1 : 2 * a ≤ 2 * (c : Rat) + 1 := by
    have := Rat.natCast_le_natCast.2 c1
    simp only [Rat.natCast_mul, Rat.natCast_add] at this
    refine Rat.le_of_mul_le_mul_right (c := (g : Rat)) ?_ g0'
    have two : ((2 : Nat) : Rat) = 2 := rfl
    have one : ((1 : Nat) : Rat) = 1 := rfl
    rw [two, one] at this
    grind
  have d2 : 2 * (c : Rat) ≤ 2 * a + 1 := by
    have := Rat.natCast_le_natCast.2 c2
    simp only [Rat.natCast_mul, Rat.natCast_add] at this
    refine Rat.le_of_mul_le_mul_right (c := (g : Rat)) ?_ g0'
    have two : ((2 : Nat) : Rat) = 2 := rfl
    rw [two] at this
    grind
  have hc : Rep .f32 (c : Rat) := by
    by_cases hb : a < 16777216
    · have : (c : Rat) < ((16777217 : Nat) : Rat) := by
        have : ((16777217 : Nat) : Rat) = 16777217 := rfl
        grind
      have := Rat.natCast_lt_natCast.1 this
      exact rep32 (c : Int) 0 (by rw [Nat.pow_zero]; exact Rat.mul_one _) (by omega) (by omega)
    · obtain ⟨k, hk⟩ := far_int ha nn (Rat.not_lt.1 hb)
      have : c = k := by
        rw [hk] at d1 d2
        have l1 : ((2 * k : Nat) : Rat) ≤ ((2 * c + 1 : Nat) : Rat) := by
          rw [Rat.natCast_mul, Rat.natCast_add, Rat.natCast_mul]; exact d1
        have l2 : ((2 * c : Nat) : Rat) ≤ ((2 * k + 1 : Nat) : Rat) := by
          rw [Rat.natCast_mul, Rat.natCast_add, Rat.natCast_mul]; exact d2
        have l1 := Rat.natCast_le_natCast.1 l1
        have l2 := Rat.natCast_le_natCast.1 l2
        omega
      rw [this, ← hk]; exact ha
  cases s : sg .f64 v with
  | false =>
    rw [s] at hv
    simp only [sgd, cond_false] at hv
    refine ⟨(c : Int), ?_, hc, by rw [← hv]; exact d2, by rw [← hv]; exact d1⟩
    have hs : sgd false ((c : Rat) * pw 0) = ((c : Int) : Rat) := by rw [pw_zero, Rat.mul_one]; rfl
    exact (Rnd.of hs).ex hc.up64
  | true =>
    rw [s] at hv
    simp only [sgd, cond_true] at hv
    have en : ((-(c : Int) : Int) : Rat) = -(c : Rat) := Rat.intCast_neg _
    refine ⟨-(c : Int), ?_, by rw [en]; exact hc.neg, by rw [en, ← hv]; grind, by rw [en, ← hv]; grind⟩
    have hs : sgd true ((c : Rat) * pw 0) = ((-(c : Int) : Int) : Rat) := by rw [pw_zero, Rat.mul_one, en]; rfl
    exact (Rnd.of hs).ex (by rw [en]; exact hc.neg.up64)
theorem even_ovf {x : Nat} (hl : x < 2 * signOf .f32) (hc : canon .f32 x = x) : ovf (fwhole .even (widen x)) = false := by
  cases hn : nan .f32 x with
  | true =>
    rw [canon_nan hn] at hc
    rw [← hc]
    decide +kernel
  | false =>
    cases hf : fin .f32 x with
    | true =>
      have hx : Ex .f32 x (ev .f32 x) := ⟨hf, hl, rfl⟩
      obtain ⟨n, h1, h2, _⟩ := even_ex (widen_ex hx) hx.rep
      exact (narrow_ex h1 h2).2
    | false =>
      have : x = 2139095040 ∨ x = 4286578688 := by
        have h1 : nan .f32 x = false := hn
        have h3 : ¬ rung .f32 x < infOf .f32 := by rw [← fin_iff, hf]; exact Bool.noConfusion
        have h2 := x_cases hl
        rw [nan_false] at h1
        have e1 : infOf .f32 = 2139095040 := rfl
        have e2 : signOf .f32 = 2147483648 := rfl
        have e3 : rung .f32 x = x % 2147483648 := rfl
        rw [e1] at h1 h3
        rw [e2] at h2
        omega
      rcases this with rfl | rfl <;> decide +kernel
end Fl
end Go.Ev

/- math.RoundToEven, for all floats. -/
set_option linter.unusedVariables false
set_option linter.unusedSimpArgs false
namespace Go.Ev

def sEven : Sm := fun args hs K =>
  match args with
  | [.float .f64 x] => K (.float .f64 (fwhole .even x)) hs
  | _ => False

theorem quiet_pos (t : Nat) : 0 < (FloatKind.f64.format.quiet t) % FloatKind.f64.format.binade := by
  have e : (FloatKind.f64.format.quiet t) % FloatKind.f64.format.binade = (t ||| 2 ^ 51) % 2 ^ 52 := rfl
  rw [e]
  have h : ((t ||| 2 ^ 51) % 2 ^ 52).testBit 51 = true := by
    rw [Nat.testBit_mod_two_pow, Nat.testBit_or, Nat.testBit_two_pow_self]
    simp
  rcases Nat.eq_zero_or_pos ((t ||| 2 ^ 51) % 2 ^ 52) with h0 | h0
  · rw [h0] at h; simp at h
  · exact h0
theorem enc_nan (s : Bool) (t : Nat) : nan .f64 (FloatKind.f64.encode (.nan s (FloatKind.f64.format.quiet t))) = true ∧ FloatKind.f64.encode (.nan s (FloatKind.f64.format.quiet t)) < 2 * signOf .f64 := by
  have h := quiet_pos t
  have h2 : (FloatKind.f64.format.quiet t) % FloatKind.f64.format.binade < 4503599627370496 := Nat.mod_lt _ (by decide)
  have e : FloatKind.f64.encode (.nan s (FloatKind.f64.format.quiet t)) = if s then 9223372036854775808 + (9218868437227405312 + (FloatKind.f64.format.quiet t) % FloatKind.f64.format.binade) else (9218868437227405312 + (FloatKind.f64.format.quiet t) % FloatKind.f64.format.binade) := rfl
  have e2 : 2 * signOf .f64 = 18446744073709551616 := rfl
  generalize (FloatKind.f64.format.quiet t) % FloatKind.f64.format.binade = r at *
  rw [nan_iff, e, e2]
  show 9218868437227405312 < _ % 9223372036854775808 ∧ _
  split <;> omega
theorem choose_ext (P : Program) (what : String) (w : World) : ∃ r w', (choose (.extern what 2)).run P w = .ok r w' ∧ Drawn w w' :=
  ⟨(Question.extern what 2).cut (w.tape w.drawn (Question.extern what 2)), _, by simp [Question.forced], Drawn.drew w⟩

theorem ok_even {P : Program} {k : FuncId} {fn : Func} (name : String) (hf : P.funcs[k]? = some fn) (hname : (fn.name == "runtime.NumGoroutine") = false)
    (hb : fn.body.isNone = true) (hn : Extern.findNext fn = none) (he : Extern.find fn = some (Extern.MathFloor.toIntegral name .even)) : FnOk P k sEven := by
  refine fnOk_ext hf hname hb hn he ?_
  intro args K h
  unfold sEven at h
  split at h
  · rename_i x
    refine ⟨_, h, fun K' h' => h', ?_⟩
    intro w M cargs hv
    cases hv with
    | cons a b =>
      cases b
      cases a with
      | float _ _ b' h1 h2 =>
        subst h2
        cases hx : nan .f64 b' with
        | false =>
          rw [canon_not hx]
          have hd := read_not_nan hx
          have hp : ∀ d, FloatKind.f64.decode b' = d → plainD d = true := by
            intro d e
            cases d with
            | nan s t => exact absurd e (hd s t)
            | infinity s => rfl
            | number s m p => rfl
          have hpl : plainD (((FloatKind.f64.decode b').integral .even)) = true := by
            have := hp _ rfl
            revert this
            cases FloatKind.f64.decode b' with
            | nan s t => exact id
            | infinity s => exact fun _ => rfl
            | number s m p => exact fun _ => rfl
          refine ⟨.float .f64 (FloatKind.f64.encode ((FloatKind.f64.decode b').integral .even)), w, ?_, Drawn.refl w, ?_⟩
          · have h0 : (Extern.MathFloor.toIntegral name .even #[.float .f64 b']) = (match FloatKind.f64.decode b' with
              | .nan s t => (if FloatKind.f64.format.quiet t = t then pure (.float .f64 b') else do
                let kept ← choose (.extern "math.Floor,Ceil,Trunc,RoundToEven.signallingNaN kept" 2)
                pure (.float .f64 (if kept == 1 then b' else FloatKind.f64.encode (.nan s (FloatKind.f64.format.quiet t)))))
              | d => pure (.float .f64 (FloatKind.f64.encode (d.integral .even)))) := rfl
            show (Extern.MathFloor.toIntegral name .even #[.float .f64 b']).run P w = _
            rw [h0]
            have := hp _ rfl
            revert this
            cases FloatKind.f64.decode b' with
            | nan s t => exact fun c => by cases c
            | infinity s => exact fun _ => rfl
            | number s m p => exact fun _ => rfl
          · have hn' : nan .f64 (FloatKind.f64.encode ((FloatKind.f64.decode b').integral .even)) = false := nan_write hpl
            refine .float _ _ _ ?_ ?_
            · have := FloatKind.f64.format.write_lt ((FloatKind.f64.decode b').integral .even)
              rw [← width_eq]
              exact this
            · unfold fwhole
              rw [hx, cond_false, canon_not hn']
        | true =>
          rw [canon_nan hx]
          have hw : fwhole .even (qnan .f64) = qnan .f64 := by unfold fwhole; rw [nan_qnan]; rfl
          rw [hw]
          obtain ⟨s, t, hr⟩ := read_nan hx
          have hr : FloatKind.f64.decode b' = .nan s t := hr
          have h0 : (Extern.MathFloor.toIntegral name .even #[.float .f64 b']) = (match FloatKind.f64.decode b' with
              | .nan s t => (if FloatKind.f64.format.quiet t = t then pure (.float .f64 b') else do
                let kept ← choose (.extern "math.Floor,Ceil,Trunc,RoundToEven.signallingNaN kept" 2)
                pure (.float .f64 (if kept == 1 then b' else FloatKind.f64.encode (.nan s (FloatKind.f64.format.quiet t)))))
              | d => pure (.float .f64 (FloatKind.f64.encode (d.integral .even)))) := rfl
          rw [hr] at h0
          simp only at h0
          by_cases hq : FloatKind.f64.format.quiet t = t
          · rw [if_pos hq] at h0
            refine ⟨.float .f64 b', w, ?_, Drawn.refl w, .float _ _ _ h1 (canon_nan hx).symm⟩
            show (Extern.MathFloor.toIntegral name .even #[.float .f64 b']).run P w = _
            rw [h0]; rfl
          · rw [if_neg hq] at h0
            obtain ⟨r, w', hc, hd⟩ := choose_ext P "math.Floor,Ceil,Trunc,RoundToEven.signallingNaN kept" w
            refine ⟨.float .f64 (if r == 1 then b' else FloatKind.f64.encode (.nan s (FloatKind.f64.format.quiet t))), w', ?_, hd, ?_⟩
            · show (Extern.MathFloor.toIntegral name .even #[.float .f64 b']).run P w = _
              rw [h0, Sem.run_bind, hc]; rfl
            · obtain ⟨e1, e2⟩ := enc_nan s t
              cases (r == 1) with
              | true => exact .float _ _ _ h1 (canon_nan hx).symm
              | false => exact .float _ _ _ e2 (canon_nan e1).symm
  · exact h.elim

end Go.Ev

/- Roots, lengths, sines: their walks, beside shapes. -/
set_option linter.unusedVariables false
set_option linter.unusedSimpArgs false
set_option maxRecDepth 100000
namespace Go.Proofs.Ytfhpmcdbfebflaa
open Go.Ev Go.Ev.Fl

abbrev s_math_Float64bits : Sm := sF64bits
theorem ok_math_Float64bits : FnOk Try.prog 176 (sF64bits) := ok_F64bits Try.func176 (by kernel_rfl) (by kernel_rfl) (by kernel_rfl) (by kernel_rfl)
abbrev s_math_Float64frombits : Sm := sF64from
theorem ok_math_Float64frombits : FnOk Try.prog 175 (sF64from) := ok_F64from Try.func175 (by kernel_rfl) (by kernel_rfl) (by kernel_rfl) (by kernel_rfl)
abbrev s_math_archTrunc : Sm := sWhole .zero
theorem ok_math_archTrunc : FnOk Try.prog 177 (sWhole .zero) := ok_whole "math.archTrunc" .zero Try.func177 (by kernel_rfl) (by kernel_rfl) (by kernel_rfl) (by kernel_rfl)
abbrev s_math_RoundToEven : Sm := sEven
theorem ok_math_RoundToEven : FnOk Try.prog 179 (sEven) := ok_even "math.RoundToEven" Try.func179 (by kernel_rfl) (by kernel_rfl) (by kernel_rfl) (by kernel_rfl)

/-! words of numbers -/
theorem cond_yes {c : Bool} {P Q : Prop} (hc : c = true) (h : P) : cond c P Q := by rw [hc]; exact h
theorem cond_of {c : Bool} {P Q : Prop} (hc : c = false) (h : Q) : cond c P Q := by rw [hc]; exact h

/-! math.NaN -/
noncomputable def c_math_NaN : Ctx := mkC Try.prog tyT [(175, s_math_Float64frombits)] [] [] 2 (fun _ => none) 0
theorem w_math_NaN (K : V → Heap → Prop) : wpFn c_math_NaN Try.f160 (encAs [] ()) [] K =
  K (.float .f64 (canon FloatKind.f64 9221120237041090561)) [] := by kernel_rfl
noncomputable def s_math_NaN : Sm := semT [] fun x => match x with | _ => .float .f64 9221120237041090560
theorem ok_math_NaN : FnOk Try.prog 160 s_math_NaN := fnOk_typed (fnOk_runC (C := c_math_NaN) rfl mixed (.cons ok_math_Float64frombits .nil) .nil .nil Try.func160 (by kernel_rfl)) fun (x : Unit) wf K h => by
  obtain ⟨⟩ := x
  replace h : K (.float .f64 9221120237041090560) [] := h
  rw [w_math_NaN  K]
  rw [show canon FloatKind.f64 9221120237041090561 = 9221120237041090560 by decide +kernel]
  exact h

theorem abs_bits {x : Nat} (h : x < 18446744073709551616) : Int.toNat (IntKind.wrap IntKind.u64 (↑(BitVec.toNat (BitVec.ofInt 64 (↑x : Int) &&& ~~~BitVec.ofInt 64 9223372036854775808)) : Int)) = x % 9223372036854775808 := by
  have e : BitVec.toNat (BitVec.ofInt 64 (↑x : Int) &&& ~~~BitVec.ofInt 64 9223372036854775808) = x % 9223372036854775808 := by
    rw [BitVec.toNat_and, BitVec.ofInt_natCast, BitVec.toNat_ofNat, Nat.mod_eq_of_lt (show x < 2 ^ 64 from h)]
    exact Nat.and_two_pow_sub_one_eq_mod x 63
  rw [e, wrap_of (by have : IntKind.u64.min = 0 := rfl; omega) (by have : IntKind.u64.max = 18446744073709551615 := rfl; omega)]
  omega
--B absW Nat → Nat
def absW (x : Nat) : Nat := abs64 x
/-! math.Abs -/
noncomputable def c_math_Abs : Ctx := mkC Try.prog tyT [(176, s_math_Float64bits), (175, s_math_Float64frombits)] [] [] 7 (fun _ => none) 0
theorem w_math_Abs (x : Nat) (K : V → Heap → Prop) : wpFn c_math_Abs Try.f161 (encAs [.cell (.float .f64)] (x, ())) [] K =
  cond (nan FloatKind.f64 x)
    (False)
    (K (.float .f64 (canon FloatKind.f64 (Int.toNat (IntKind.wrap IntKind.u64 (↑(BitVec.toNat (BitVec.ofInt 64 (↑x : Int) &&& ~~~BitVec.ofInt 64 9223372036854775808)) : Int))))) []) := by kernel_rfl
noncomputable def s_math_Abs : Sm := semG [.cell (.float .f64)] (fun x => match x with | (x, _) => !nan .f64 x) fun x => match x with | (x, _) => .float .f64 (absW x)
theorem ok_math_Abs : FnOk Try.prog 161 s_math_Abs := fnOk_typedG (fnOk_runC (C := c_math_Abs) rfl mixed (.cons ok_math_Float64bits (.cons ok_math_Float64frombits .nil)) .nil .nil Try.func161 (by kernel_rfl)) fun (x : ((Nat) × Unit)) wf hg K h => by
  obtain ⟨x, ⟨⟩⟩ := x
  replace hg : (!nan .f64 x) = true := hg
  replace h : K (.float .f64 (absW x)) [] := h
  rw [w_math_Abs x K]
  rw [Bool.not_eq_true'] at hg
  rw [hg]
  have hl : x < 18446744073709551616 := wf.1.1
  rw [abs_bits hl]
  have hn : nan .f64 (x % 9223372036854775808) = false := by
    rw [nan_false] at hg ⊢
    show x % 9223372036854775808 % 9223372036854775808 ≤ _
    rw [Nat.mod_mod]
    exact hg
  rw [canon_not hn]
  exact h

/-! math.Trunc -/
noncomputable def c_math_Trunc : Ctx := mkC Try.prog tyT [(177, s_math_archTrunc)] [] [] 7 (fun _ => none) 0
theorem w_math_Trunc (x : Nat) (K : V → Heap → Prop) : wpFn c_math_Trunc Try.f162 (encAs [.cell (.float .f64)] (x, ())) [] K =
  cond (nan FloatKind.f64 x)
    (False)
    (K (.float .f64 (fwhole Ieee.Toward.zero x)) []) := by kernel_rfl
noncomputable def s_math_Trunc : Sm := semG [.cell (.float .f64)] (fun x => match x with | (x, _) => !nan .f64 x) fun x => match x with | (x, _) => .float .f64 (fwhole .zero x)
theorem ok_math_Trunc : FnOk Try.prog 162 s_math_Trunc := fnOk_typedG (fnOk_runC (C := c_math_Trunc) rfl mixed (.cons ok_math_archTrunc .nil) .nil .nil Try.func162 (by kernel_rfl)) fun (x : ((Nat) × Unit)) wf hg K h => by
  obtain ⟨x, ⟨⟩⟩ := x
  replace hg : (!nan .f64 x) = true := hg
  replace h : K (.float .f64 (fwhole .zero x)) [] := h
  rw [w_math_Trunc x K]
  cases e : nan .f64 x <;> rw [e] at hg
  · exact h
  · cases hg

theorem finN_fin {x : Nat} (hl : x < 2 * signOf .f32) : finN x = fin .f32 x := sub_self hl
--B sineF Nat → Nat
def sineF (x : Nat) : Nat := sineN x
--B sineOk Nat → Bool
def sineOk (x : Nat) : Bool := sinOk x
/-! impl.SineTurns -/
noncomputable def a_impl_SineTurns : Nat → Option Ann := fun n => bif Nat.beq n 19 then some ⟨[5,6,7,8,9],0,false⟩ else none
noncomputable def c_impl_SineTurns : Ctx := mkC Try.prog tyT [(78, s_impl_IsFinite), (160, s_math_NaN), (161, s_math_Abs), (162, s_math_Trunc)] [] [] 72 a_impl_SineTurns 0
noncomputable def fr_impl_SineTurns_19 (f z u p : Nat) (b' : Bool) (i : Int) : Fr := [(5, .bool b'), (6, .float .f64 z), (7, .float .f64 u), (8, .float .f64 p), (9, .int .i64 i)]
theorem r_impl_SineTurns_19 (f z u p : Nat) (b' : Bool) (i : Int) (Kn : Fr → Heap → Prop) (K : V → Heap → Prop) : round c_impl_SineTurns ⟨[5,6,7,8,9],0,false⟩ (lb c_impl_SineTurns 19 Try.f136) (fr_impl_SineTurns_19 f z u p b' i) [] Kn (lk c_impl_SineTurns 19 Try.f136 [] K) =
  cond (decide (i ≥ 1))
    (Kn [(5, (.bool (b'))), (6, (.float .f64 (z))), (7, (.float .f64 (u))), (8, (.float .f64 (fsub FloatKind.f64 4607182418800017408 (fdiv FloatKind.f64 (fmul FloatKind.f64 u p) (FloatKind.nearest FloatKind.f64 (IntKind.wrap IntKind.i64 (IntKind.wrap IntKind.i64 (2 * i) * IntKind.wrap IntKind.i64 (IntKind.wrap IntKind.i64 (2 * i) + 1)))))))), (9, (.int .i64 (IntKind.wrap IntKind.i64 (i - 1))))] [])
    (cond (b')
      (cond (ovf (fneg FloatKind.f64 (fmul FloatKind.f64 z p)))
        (K .undef [])
        (K (.float .f32 (narrow (fneg FloatKind.f64 (fmul FloatKind.f64 z p)))) []))
      (cond (ovf (fmul FloatKind.f64 z p))
        (K .undef [])
        (K (.float .f32 (narrow (fmul FloatKind.f64 z p))) []))) := by kernel_rfl
theorem w_impl_SineTurns (x : Nat) (K : V → Heap → Prop) : wpFn c_impl_SineTurns Try.f136 (encAs [.cell tF] (x, ())) [] K =
  cond (!finN x)
    (cond (ovf 9221120237041090560)
      (K .undef [])
      (K (.float .f32 (narrow 9221120237041090560)) []))
    (cond (!nan FloatKind.f64 (widen x))
      (cond (fge FloatKind.f64 (absW (widen x)) 4841369599423283200)
        (K (.float .f32 0) [])
        (cond (!nan FloatKind.f64 (widen x))
          (cond (!feq FloatKind.f64 (fwhole Ieee.Toward.zero (widen x)) 0)
            (cond (flt FloatKind.f64 (fsub FloatKind.f64 (widen x) (fwhole Ieee.Toward.zero (widen x))) 0)
              (cond (fge FloatKind.f64 (fadd FloatKind.f64 (fsub FloatKind.f64 (widen x) (fwhole Ieee.Toward.zero (widen x))) 4607182418800017408) 4602678819172646912)
                (cond (fgt FloatKind.f64 (fsub FloatKind.f64 (fadd FloatKind.f64 (fsub FloatKind.f64 (widen x) (fwhole Ieee.Toward.zero (widen x))) 4607182418800017408) 4602678819172646912) 4598175219545276416)
                  (LoopE c_impl_SineTurns ⟨[5, 6, 7, 8, 9], 0, false⟩ (lb c_impl_SineTurns 19 Try.f136) [(5, (.bool (fge FloatKind.f64 (fadd FloatKind.f64 (fsub FloatKind.f64 (widen x) (fwhole Ieee.Toward.zero (widen x))) 4607182418800017408) 4602678819172646912))), (6, (.float .f64 (fmul FloatKind.f64 (fsub FloatKind.f64 4602678819172646912 (fsub FloatKind.f64 (fadd FloatKind.f64 (fsub FloatKind.f64 (widen x) (fwhole Ieee.Toward.zero (widen x))) 4607182418800017408) 4602678819172646912)) 4618760256179416344))), (7, (.float .f64 (fmul FloatKind.f64 (fmul FloatKind.f64 (fsub FloatKind.f64 4602678819172646912 (fsub FloatKind.f64 (fadd FloatKind.f64 (fsub FloatKind.f64 (widen x) (fwhole Ieee.Toward.zero (widen x))) 4607182418800017408) 4602678819172646912)) 4618760256179416344) (fmul FloatKind.f64 (fsub FloatKind.f64 4602678819172646912 (fsub FloatKind.f64 (fadd FloatKind.f64 (fsub FloatKind.f64 (widen x) (fwhole Ieee.Toward.zero (widen x))) 4607182418800017408) 4602678819172646912)) 4618760256179416344)))), (8, (.float .f64 4607182418800017408)), (9, (.int .i64 8))] [] (lk c_impl_SineTurns 19 Try.f136 [] K))
                  (LoopE c_impl_SineTurns ⟨[5, 6, 7, 8, 9], 0, false⟩ (lb c_impl_SineTurns 19 Try.f136) [(5, (.bool (fge FloatKind.f64 (fadd FloatKind.f64 (fsub FloatKind.f64 (widen x) (fwhole Ieee.Toward.zero (widen x))) 4607182418800017408) 4602678819172646912))), (6, (.float .f64 (fmul FloatKind.f64 (fsub FloatKind.f64 (fadd FloatKind.f64 (fsub FloatKind.f64 (widen x) (fwhole Ieee.Toward.zero (widen x))) 4607182418800017408) 4602678819172646912) 4618760256179416344))), (7, (.float .f64 (fmul FloatKind.f64 (fmul FloatKind.f64 (fsub FloatKind.f64 (fadd FloatKind.f64 (fsub FloatKind.f64 (widen x) (fwhole Ieee.Toward.zero (widen x))) 4607182418800017408) 4602678819172646912) 4618760256179416344) (fmul FloatKind.f64 (fsub FloatKind.f64 (fadd FloatKind.f64 (fsub FloatKind.f64 (widen x) (fwhole Ieee.Toward.zero (widen x))) 4607182418800017408) 4602678819172646912) 4618760256179416344)))), (8, (.float .f64 4607182418800017408)), (9, (.int .i64 8))] [] (lk c_impl_SineTurns 19 Try.f136 [] K)))
                (cond (fgt FloatKind.f64 (fadd FloatKind.f64 (fsub FloatKind.f64 (widen x) (fwhole Ieee.Toward.zero (widen x))) 4607182418800017408) 4598175219545276416)
                  (LoopE c_impl_SineTurns ⟨[5, 6, 7, 8, 9], 0, false⟩ (lb c_impl_SineTurns 19 Try.f136) [(5, (.bool (fge FloatKind.f64 (fadd FloatKind.f64 (fsub FloatKind.f64 (widen x) (fwhole Ieee.Toward.zero (widen x))) 4607182418800017408) 4602678819172646912))), (6, (.float .f64 (fmul FloatKind.f64 (fsub FloatKind.f64 4602678819172646912 (fadd FloatKind.f64 (fsub FloatKind.f64 (widen x) (fwhole Ieee.Toward.zero (widen x))) 4607182418800017408)) 4618760256179416344))), (7, (.float .f64 (fmul FloatKind.f64 (fmul FloatKind.f64 (fsub FloatKind.f64 4602678819172646912 (fadd FloatKind.f64 (fsub FloatKind.f64 (widen x) (fwhole Ieee.Toward.zero (widen x))) 4607182418800017408)) 4618760256179416344) (fmul FloatKind.f64 (fsub FloatKind.f64 4602678819172646912 (fadd FloatKind.f64 (fsub FloatKind.f64 (widen x) (fwhole Ieee.Toward.zero (widen x))) 4607182418800017408)) 4618760256179416344)))), (8, (.float .f64 4607182418800017408)), (9, (.int .i64 8))] [] (lk c_impl_SineTurns 19 Try.f136 [] K))
                  (LoopE c_impl_SineTurns ⟨[5, 6, 7, 8, 9], 0, false⟩ (lb c_impl_SineTurns 19 Try.f136) [(5, (.bool (fge FloatKind.f64 (fadd FloatKind.f64 (fsub FloatKind.f64 (widen x) (fwhole Ieee.Toward.zero (widen x))) 4607182418800017408) 4602678819172646912))), (6, (.float .f64 (fmul FloatKind.f64 (fadd FloatKind.f64 (fsub FloatKind.f64 (widen x) (fwhole Ieee.Toward.zero (widen x))) 4607182418800017408) 4618760256179416344))), (7, (.float .f64 (fmul FloatKind.f64 (fmul FloatKind.f64 (fadd FloatKind.f64 (fsub FloatKind.f64 (widen x) (fwhole Ieee.Toward.zero (widen x))) 4607182418800017408) 4618760256179416344) (fmul FloatKind.f64 (fadd FloatKind.f64 (fsub FloatKind.f64 (widen x) (fwhole Ieee.Toward.zero (widen x))) 4607182418800017408) 4618760256179416344)))), (8, (.float .f64 4607182418800017408)), (9, (.int .i64 8))] [] (lk c_impl_SineTurns 19 Try.f136 [] K))))
              (cond (fge FloatKind.f64 (fsub FloatKind.f64 (widen x) (fwhole Ieee.Toward.zero (widen x))) 4602678819172646912)
                (cond (fgt FloatKind.f64 (fsub FloatKind.f64 (fsub FloatKind.f64 (widen x) (fwhole Ieee.Toward.zero (widen x))) 4602678819172646912) 4598175219545276416)
                  (LoopE c_impl_SineTurns ⟨[5, 6, 7, 8, 9], 0, false⟩ (lb c_impl_SineTurns 19 Try.f136) [(5, (.bool (fge FloatKind.f64 (fsub FloatKind.f64 (widen x) (fwhole Ieee.Toward.zero (widen x))) 4602678819172646912))), (6, (.float .f64 (fmul FloatKind.f64 (fsub FloatKind.f64 4602678819172646912 (fsub FloatKind.f64 (fsub FloatKind.f64 (widen x) (fwhole Ieee.Toward.zero (widen x))) 4602678819172646912)) 4618760256179416344))), (7, (.float .f64 (fmul FloatKind.f64 (fmul FloatKind.f64 (fsub FloatKind.f64 4602678819172646912 (fsub FloatKind.f64 (fsub FloatKind.f64 (widen x) (fwhole Ieee.Toward.zero (widen x))) 4602678819172646912)) 4618760256179416344) (fmul FloatKind.f64 (fsub FloatKind.f64 4602678819172646912 (fsub FloatKind.f64 (fsub FloatKind.f64 (widen x) (fwhole Ieee.Toward.zero (widen x))) 4602678819172646912)) 4618760256179416344)))), (8, (.float .f64 4607182418800017408)), (9, (.int .i64 8))] [] (lk c_impl_SineTurns 19 Try.f136 [] K))
                  (LoopE c_impl_SineTurns ⟨[5, 6, 7, 8, 9], 0, false⟩ (lb c_impl_SineTurns 19 Try.f136) [(5, (.bool (fge FloatKind.f64 (fsub FloatKind.f64 (widen x) (fwhole Ieee.Toward.zero (widen x))) 4602678819172646912))), (6, (.float .f64 (fmul FloatKind.f64 (fsub FloatKind.f64 (fsub FloatKind.f64 (widen x) (fwhole Ieee.Toward.zero (widen x))) 4602678819172646912) 4618760256179416344))), (7, (.float .f64 (fmul FloatKind.f64 (fmul FloatKind.f64 (fsub FloatKind.f64 (fsub FloatKind.f64 (widen x) (fwhole Ieee.Toward.zero (widen x))) 4602678819172646912) 4618760256179416344) (fmul FloatKind.f64 (fsub FloatKind.f64 (fsub FloatKind.f64 (widen x) (fwhole Ieee.Toward.zero (widen x))) 4602678819172646912) 4618760256179416344)))), (8, (.float .f64 4607182418800017408)), (9, (.int .i64 8))] [] (lk c_impl_SineTurns 19 Try.f136 [] K)))
                (cond (fgt FloatKind.f64 (fsub FloatKind.f64 (widen x) (fwhole Ieee.Toward.zero (widen x))) 4598175219545276416)
                  (LoopE c_impl_SineTurns ⟨[5, 6, 7, 8, 9], 0, false⟩ (lb c_impl_SineTurns 19 Try.f136) [(5, (.bool (fge FloatKind.f64 (fsub FloatKind.f64 (widen x) (fwhole Ieee.Toward.zero (widen x))) 4602678819172646912))), (6, (.float .f64 (fmul FloatKind.f64 (fsub FloatKind.f64 4602678819172646912 (fsub FloatKind.f64 (widen x) (fwhole Ieee.Toward.zero (widen x)))) 4618760256179416344))), (7, (.float .f64 (fmul FloatKind.f64 (fmul FloatKind.f64 (fsub FloatKind.f64 4602678819172646912 (fsub FloatKind.f64 (widen x) (fwhole Ieee.Toward.zero (widen x)))) 4618760256179416344) (fmul FloatKind.f64 (fsub FloatKind.f64 4602678819172646912 (fsub FloatKind.f64 (widen x) (fwhole Ieee.Toward.zero (widen x)))) 4618760256179416344)))), (8, (.float .f64 4607182418800017408)), (9, (.int .i64 8))] [] (lk c_impl_SineTurns 19 Try.f136 [] K))
                  (LoopE c_impl_SineTurns ⟨[5, 6, 7, 8, 9], 0, false⟩ (lb c_impl_SineTurns 19 Try.f136) [(5, (.bool (fge FloatKind.f64 (fsub FloatKind.f64 (widen x) (fwhole Ieee.Toward.zero (widen x))) 4602678819172646912))), (6, (.float .f64 (fmul FloatKind.f64 (fsub FloatKind.f64 (widen x) (fwhole Ieee.Toward.zero (widen x))) 4618760256179416344))), (7, (.float .f64 (fmul FloatKind.f64 (fmul FloatKind.f64 (fsub FloatKind.f64 (widen x) (fwhole Ieee.Toward.zero (widen x))) 4618760256179416344) (fmul FloatKind.f64 (fsub FloatKind.f64 (widen x) (fwhole Ieee.Toward.zero (widen x))) 4618760256179416344)))), (8, (.float .f64 4607182418800017408)), (9, (.int .i64 8))] [] (lk c_impl_SineTurns 19 Try.f136 [] K)))))
            (cond (flt FloatKind.f64 (widen x) 0)
              (cond (fge FloatKind.f64 (fadd FloatKind.f64 (widen x) 4607182418800017408) 4602678819172646912)
                (cond (fgt FloatKind.f64 (fsub FloatKind.f64 (fadd FloatKind.f64 (widen x) 4607182418800017408) 4602678819172646912) 4598175219545276416)
                  (LoopE c_impl_SineTurns ⟨[5, 6, 7, 8, 9], 0, false⟩ (lb c_impl_SineTurns 19 Try.f136) [(5, (.bool (fge FloatKind.f64 (fadd FloatKind.f64 (widen x) 4607182418800017408) 4602678819172646912))), (6, (.float .f64 (fmul FloatKind.f64 (fsub FloatKind.f64 4602678819172646912 (fsub FloatKind.f64 (fadd FloatKind.f64 (widen x) 4607182418800017408) 4602678819172646912)) 4618760256179416344))), (7, (.float .f64 (fmul FloatKind.f64 (fmul FloatKind.f64 (fsub FloatKind.f64 4602678819172646912 (fsub FloatKind.f64 (fadd FloatKind.f64 (widen x) 4607182418800017408) 4602678819172646912)) 4618760256179416344) (fmul FloatKind.f64 (fsub FloatKind.f64 4602678819172646912 (fsub FloatKind.f64 (fadd FloatKind.f64 (widen x) 4607182418800017408) 4602678819172646912)) 4618760256179416344)))), (8, (.float .f64 4607182418800017408)), (9, (.int .i64 8))] [] (lk c_impl_SineTurns 19 Try.f136 [] K))
                  (LoopE c_impl_SineTurns ⟨[5, 6, 7, 8, 9], 0, false⟩ (lb c_impl_SineTurns 19 Try.f136) [(5, (.bool (fge FloatKind.f64 (fadd FloatKind.f64 (widen x) 4607182418800017408) 4602678819172646912))), (6, (.float .f64 (fmul FloatKind.f64 (fsub FloatKind.f64 (fadd FloatKind.f64 (widen x) 4607182418800017408) 4602678819172646912) 4618760256179416344))), (7, (.float .f64 (fmul FloatKind.f64 (fmul FloatKind.f64 (fsub FloatKind.f64 (fadd FloatKind.f64 (widen x) 4607182418800017408) 4602678819172646912) 4618760256179416344) (fmul FloatKind.f64 (fsub FloatKind.f64 (fadd FloatKind.f64 (widen x) 4607182418800017408) 4602678819172646912) 4618760256179416344)))), (8, (.float .f64 4607182418800017408)), (9, (.int .i64 8))] [] (lk c_impl_SineTurns 19 Try.f136 [] K)))
                (cond (fgt FloatKind.f64 (fadd FloatKind.f64 (widen x) 4607182418800017408) 4598175219545276416)
                  (LoopE c_impl_SineTurns ⟨[5, 6, 7, 8, 9], 0, false⟩ (lb c_impl_SineTurns 19 Try.f136) [(5, (.bool (fge FloatKind.f64 (fadd FloatKind.f64 (widen x) 4607182418800017408) 4602678819172646912))), (6, (.float .f64 (fmul FloatKind.f64 (fsub FloatKind.f64 4602678819172646912 (fadd FloatKind.f64 (widen x) 4607182418800017408)) 4618760256179416344))), (7, (.float .f64 (fmul FloatKind.f64 (fmul FloatKind.f64 (fsub FloatKind.f64 4602678819172646912 (fadd FloatKind.f64 (widen x) 4607182418800017408)) 4618760256179416344) (fmul FloatKind.f64 (fsub FloatKind.f64 4602678819172646912 (fadd FloatKind.f64 (widen x) 4607182418800017408)) 4618760256179416344)))), (8, (.float .f64 4607182418800017408)), (9, (.int .i64 8))] [] (lk c_impl_SineTurns 19 Try.f136 [] K))
                  (LoopE c_impl_SineTurns ⟨[5, 6, 7, 8, 9], 0, false⟩ (lb c_impl_SineTurns 19 Try.f136) [(5, (.bool (fge FloatKind.f64 (fadd FloatKind.f64 (widen x) 4607182418800017408) 4602678819172646912))), (6, (.float .f64 (fmul FloatKind.f64 (fadd FloatKind.f64 (widen x) 4607182418800017408) 4618760256179416344))), (7, (.float .f64 (fmul FloatKind.f64 (fmul FloatKind.f64 (fadd FloatKind.f64 (widen x) 4607182418800017408) 4618760256179416344) (fmul FloatKind.f64 (fadd FloatKind.f64 (widen x) 4607182418800017408) 4618760256179416344)))), (8, (.float .f64 4607182418800017408)), (9, (.int .i64 8))] [] (lk c_impl_SineTurns 19 Try.f136 [] K))))
              (cond (fge FloatKind.f64 (widen x) 4602678819172646912)
                (cond (fgt FloatKind.f64 (fsub FloatKind.f64 (widen x) 4602678819172646912) 4598175219545276416)
                  (LoopE c_impl_SineTurns ⟨[5, 6, 7, 8, 9], 0, false⟩ (lb c_impl_SineTurns 19 Try.f136) [(5, (.bool (fge FloatKind.f64 (widen x) 4602678819172646912))), (6, (.float .f64 (fmul FloatKind.f64 (fsub FloatKind.f64 4602678819172646912 (fsub FloatKind.f64 (widen x) 4602678819172646912)) 4618760256179416344))), (7, (.float .f64 (fmul FloatKind.f64 (fmul FloatKind.f64 (fsub FloatKind.f64 4602678819172646912 (fsub FloatKind.f64 (widen x) 4602678819172646912)) 4618760256179416344) (fmul FloatKind.f64 (fsub FloatKind.f64 4602678819172646912 (fsub FloatKind.f64 (widen x) 4602678819172646912)) 4618760256179416344)))), (8, (.float .f64 4607182418800017408)), (9, (.int .i64 8))] [] (lk c_impl_SineTurns 19 Try.f136 [] K))
                  (LoopE c_impl_SineTurns ⟨[5, 6, 7, 8, 9], 0, false⟩ (lb c_impl_SineTurns 19 Try.f136) [(5, (.bool (fge FloatKind.f64 (widen x) 4602678819172646912))), (6, (.float .f64 (fmul FloatKind.f64 (fsub FloatKind.f64 (widen x) 4602678819172646912) 4618760256179416344))), (7, (.float .f64 (fmul FloatKind.f64 (fmul FloatKind.f64 (fsub FloatKind.f64 (widen x) 4602678819172646912) 4618760256179416344) (fmul FloatKind.f64 (fsub FloatKind.f64 (widen x) 4602678819172646912) 4618760256179416344)))), (8, (.float .f64 4607182418800017408)), (9, (.int .i64 8))] [] (lk c_impl_SineTurns 19 Try.f136 [] K)))
                (cond (fgt FloatKind.f64 (widen x) 4598175219545276416)
                  (LoopE c_impl_SineTurns ⟨[5, 6, 7, 8, 9], 0, false⟩ (lb c_impl_SineTurns 19 Try.f136) [(5, (.bool (fge FloatKind.f64 (widen x) 4602678819172646912))), (6, (.float .f64 (fmul FloatKind.f64 (fsub FloatKind.f64 4602678819172646912 (widen x)) 4618760256179416344))), (7, (.float .f64 (fmul FloatKind.f64 (fmul FloatKind.f64 (fsub FloatKind.f64 4602678819172646912 (widen x)) 4618760256179416344) (fmul FloatKind.f64 (fsub FloatKind.f64 4602678819172646912 (widen x)) 4618760256179416344)))), (8, (.float .f64 4607182418800017408)), (9, (.int .i64 8))] [] (lk c_impl_SineTurns 19 Try.f136 [] K))
                  (LoopE c_impl_SineTurns ⟨[5, 6, 7, 8, 9], 0, false⟩ (lb c_impl_SineTurns 19 Try.f136) [(5, (.bool (fge FloatKind.f64 (widen x) 4602678819172646912))), (6, (.float .f64 (fmul FloatKind.f64 (widen x) 4618760256179416344))), (7, (.float .f64 (fmul FloatKind.f64 (fmul FloatKind.f64 (widen x) 4618760256179416344) (fmul FloatKind.f64 (widen x) 4618760256179416344)))), (8, (.float .f64 4607182418800017408)), (9, (.int .i64 8))] [] (lk c_impl_SineTurns 19 Try.f136 [] K))))))
          (False)))
      (False)) := by kernel_rfl
noncomputable def s_impl_SineTurns : Sm := semG [.cell tF] (fun x => match x with | (x, _) => sineOk x) fun x => match x with | (x, _) => .float .f32 (sineF x)
theorem ok_impl_SineTurns : FnOk Try.prog 136 s_impl_SineTurns := fnOk_typedG (fnOk_runC (C := c_impl_SineTurns) rfl mixed (.cons ok_impl_IsFinite (.cons ok_math_NaN (.cons ok_math_Abs (.cons ok_math_Trunc .nil)))) .nil .nil Try.func136 (by kernel_rfl)) fun (x : ((Nat) × Unit)) wf hg K h => by
  obtain ⟨x, ⟨⟩⟩ := x
  replace hg : (sineOk x) = true := hg
  replace h : K (.float .f32 (sineF x)) [] := h
  rw [w_impl_SineTurns x K]
  obtain ⟨g1, g2, g3, g4, hov⟩ := sinOk_trunc hg wf.1.1
  have g3 : fge .f64 (absW (widen x)) 4841369599423283200 = false := g3
  have g4 : finN x = true := by rw [finN_fin wf.1.1]; exact g4
  simp only [g1, g2, g3, g4, Bool.not_true, Bool.not_false, cond_true, cond_false]
  replace h : K (.float .f32 (narrow (sine64 x))) [] := h
  have loop : ∀ (w : Nat) (tb : Bool), (sine64 x = bif tb then fneg .f64 (sinO w) else sinO w) → LoopE c_impl_SineTurns ⟨[5, 6, 7, 8, 9], 0, false⟩ (lb c_impl_SineTurns 19 Try.f136) (fr_impl_SineTurns_19 0 (fmul .f64 w 4618760256179416344) (fmul .f64 (fmul .f64 w 4618760256179416344) (fmul .f64 w 4618760256179416344)) 4607182418800017408 tb 8) [] (lk c_impl_SineTurns 19 Try.f136 [] K) := by
    intro w tb hs
    rw [hs] at h hov
    generalize hz : fmul .f64 w 4618760256179416344 = z
    refine loop_run (σ := Nat) (fun j => fr_impl_SineTurns_19 0 z (fmul .f64 z z) (sinP (fmul .f64 z z) j) tb (8 - (j : Int))) (fun _ => []) (fun j => j ≤ 8) (fun j => 8 - j) ?_ 0 (Nat.zero_le _)
    intro j hj Kn hk
    rw [r_impl_SineTurns_19 0 z (fmul .f64 z z) (sinP (fmul .f64 z z) j) tb (8 - (j : Int)) Kn K]
    by_cases hlt : j < 8
    · have b1 : 2 * (8 - (j : Int)) * (2 * (8 - (j : Int)) + 1) ≤ 16 * 17 := Int.mul_le_mul (by omega) (by omega) (by omega) (by omega)
      have b2 : 0 ≤ 2 * (8 - (j : Int)) * (2 * (8 - (j : Int)) + 1) := Int.mul_nonneg (by omega) (by omega)
      rw [d_t (show (8 : Int) - (j : Int) ≥ 1 by omega), i64_of (n := 2 * (8 - (j : Int))) (by omega) (by omega), i64_of (n := 2 * (8 - (j : Int)) + 1) (by omega) (by omega), i64_of (n := 2 * (8 - (j : Int)) * (2 * (8 - (j : Int)) + 1)) (by omega) (by omega), i64_of (n := 8 - (j : Int) - 1) (by omega) (by omega)]
      have := hk (j + 1) hlt (by omega)
      rw [show (8 : Int) - ((j + 1 : Nat) : Int) = 8 - (j : Int) - 1 by omega] at this
      exact this
    · have : j = 8 := by omega
      subst this
      rw [d_f (show ¬ (8 : Int) - ((8 : Nat) : Int) ≥ 1 by decide)]
      subst hz
      cases tb <;> simp only [cond_true, cond_false] at hov h ⊢ <;> exact cond_of hov h
  cases c1 : flt .f64 (widen x) 0
  · cases c2 : fge .f64 (widen x) 4602678819172646912
    · cases c3 : fgt .f64 (widen x) 4598175219545276416 <;> exact loop _ _ (by unfold sine64; simp only [c1, c2, c3, cond_true, cond_false])
    · cases c3 : fgt .f64 (fsub .f64 (widen x) 4602678819172646912) 4598175219545276416 <;> exact loop _ _ (by unfold sine64; simp only [c1, c2, c3, cond_true, cond_false])
  · cases c2 : fge .f64 (fadd .f64 (widen x) 4607182418800017408) 4602678819172646912
    · cases c3 : fgt .f64 (fadd .f64 (widen x) 4607182418800017408) 4598175219545276416 <;> exact loop _ _ (by unfold sine64; simp only [c1, c2, c3, cond_true, cond_false])
    · cases c3 : fgt .f64 (fsub .f64 (fadd .f64 (widen x) 4607182418800017408) 4602678819172646912) 4598175219545276416 <;> exact loop _ _ (by unfold sine64; simp only [c1, c2, c3, cond_true, cond_false])

/-! rounding to a whole number -/
--B rintV Nat → Nat
def rintV (x : Nat) : Nat := narrow (fwhole .even (widen x))
/-! impl.nearest -/
noncomputable def c_impl_nearest : Ctx := mkC Try.prog tyT [(179, s_math_RoundToEven)] [] [] 7 (fun _ => none) 0
theorem w_impl_nearest (x : Nat) (K : V → Heap → Prop) : wpFn c_impl_nearest Try.f163 (encAs [.cell tF] (x, ())) [] K =
  cond (ovf (fwhole Ieee.Toward.even (widen x)))
    (K .undef [])
    (K (.float .f32 (narrow (fwhole Ieee.Toward.even (widen x)))) []) := by kernel_rfl
noncomputable def s_impl_nearest : Sm := semT [.cell tF] fun x => match x with | (x, _) => .float .f32 (rintV x)
theorem ok_impl_nearest : FnOk Try.prog 163 s_impl_nearest := fnOk_typed (fnOk_runC (C := c_impl_nearest) rfl mixed (.cons ok_math_RoundToEven .nil) .nil .nil Try.func163 (by kernel_rfl)) fun (x : ((Nat) × Unit)) wf K h => by
  obtain ⟨x, ⟨⟩⟩ := x
  replace h : K (.float .f32 (rintV x)) [] := h
  rw [w_impl_nearest x K]
  exact cond_of (even_ovf wf.1.1 wf.1.2) h

/-! vectors -/
--B addV Nat × Nat × Nat → Nat × Nat × Nat → Nat × Nat × Nat
def addV (a b : V3) : V3 := (fadd .f32 a.1 b.1, fadd .f32 a.2.1 b.2.1, fadd .f32 a.2.2 b.2.2)
--B subV Nat × Nat × Nat → Nat × Nat × Nat → Nat × Nat × Nat
def subV (a b : V3) : V3 := (fsub .f32 a.1 b.1, fsub .f32 a.2.1 b.2.1, fsub .f32 a.2.2 b.2.2)
--B scaleV Nat × Nat × Nat → Nat → Nat × Nat × Nat
def scaleV (a : V3) (n : Nat) : V3 := (fmul .f32 a.1 n, fmul .f32 a.2.1 n, fmul .f32 a.2.2 n)
--B innerV Nat × Nat × Nat → Nat × Nat × Nat → Nat
def innerV (a b : V3) : Nat := fadd .f32 (fadd .f32 (fmul .f32 a.1 b.1) (fmul .f32 a.2.1 b.2.1)) (fmul .f32 a.2.2 b.2.2)
--B rootV Nat → Nat
def rootV (x : Nat) : Nat := rootN x
--B longV Nat × Nat × Nat → Nat
def longV (a : V3) : Nat := rootV (innerV a a)
/-! impl.AddVectors -/
noncomputable def c_impl_AddVectors : Ctx := mkC Try.prog tyT [] [] [] 21 (fun _ => none) 0
theorem w_impl_AddVectors (a b : V3) (K : V → Heap → Prop) : wpFn c_impl_AddVectors Try.f109 (encAs [.agg tV, .agg tV] (a, b, ())) [] K =
  K (.agg [(.float .f32 (fadd FloatKind.f32 (Prod.fst a) (Prod.fst b))), (.float .f32 (fadd FloatKind.f32 (Prod.fst (Prod.snd a)) (Prod.fst (Prod.snd b)))), (.float .f32 (fadd FloatKind.f32 (Prod.snd (Prod.snd a)) (Prod.snd (Prod.snd b))))]) [] := by kernel_rfl
noncomputable def s_impl_AddVectors : Sm := semT [.agg tV, .agg tV] fun x => match x with | (a, b, _) => .agg (enc tV (addV a b))
theorem ok_impl_AddVectors : FnOk Try.prog 109 s_impl_AddVectors := fnOk_typed (fnOk_runC (C := c_impl_AddVectors) rfl mixed .nil .nil .nil Try.func109 (by kernel_rfl)) fun (x : ((V3) × (V3) × Unit)) wf K h => by
  obtain ⟨a, b, ⟨⟩⟩ := x
  replace h : K (.agg (enc tV (addV a b))) [] := h
  rw [w_impl_AddVectors a b K]
  exact h

/-! impl.LessVectors -/
noncomputable def c_impl_LessVectors : Ctx := mkC Try.prog tyT [] [] [] 21 (fun _ => none) 0
theorem w_impl_LessVectors (a b : V3) (K : V → Heap → Prop) : wpFn c_impl_LessVectors Try.f39 (encAs [.agg tV, .agg tV] (a, b, ())) [] K =
  K (.agg [(.float .f32 (fsub FloatKind.f32 (Prod.fst a) (Prod.fst b))), (.float .f32 (fsub FloatKind.f32 (Prod.fst (Prod.snd a)) (Prod.fst (Prod.snd b)))), (.float .f32 (fsub FloatKind.f32 (Prod.snd (Prod.snd a)) (Prod.snd (Prod.snd b))))]) [] := by kernel_rfl
noncomputable def s_impl_LessVectors : Sm := semT [.agg tV, .agg tV] fun x => match x with | (a, b, _) => .agg (enc tV (subV a b))
theorem ok_impl_LessVectors : FnOk Try.prog 39 s_impl_LessVectors := fnOk_typed (fnOk_runC (C := c_impl_LessVectors) rfl mixed .nil .nil .nil Try.func39 (by kernel_rfl)) fun (x : ((V3) × (V3) × Unit)) wf K h => by
  obtain ⟨a, b, ⟨⟩⟩ := x
  replace h : K (.agg (enc tV (subV a b))) [] := h
  rw [w_impl_LessVectors a b K]
  exact h

/-! impl.ScaleVector -/
noncomputable def c_impl_ScaleVector : Ctx := mkC Try.prog tyT [] [] [] 18 (fun _ => none) 0
theorem w_impl_ScaleVector (a : V3) (n : Nat) (K : V → Heap → Prop) : wpFn c_impl_ScaleVector Try.f110 (encAs [.agg tV, .cell tF] (a, n, ())) [] K =
  K (.agg [(.float .f32 (fmul FloatKind.f32 (Prod.fst a) n)), (.float .f32 (fmul FloatKind.f32 (Prod.fst (Prod.snd a)) n)), (.float .f32 (fmul FloatKind.f32 (Prod.snd (Prod.snd a)) n))]) [] := by kernel_rfl
noncomputable def s_impl_ScaleVector : Sm := semT [.agg tV, .cell tF] fun x => match x with | (a, n, _) => .agg (enc tV (scaleV a n))
theorem ok_impl_ScaleVector : FnOk Try.prog 110 s_impl_ScaleVector := fnOk_typed (fnOk_runC (C := c_impl_ScaleVector) rfl mixed .nil .nil .nil Try.func110 (by kernel_rfl)) fun (x : ((V3) × (Nat) × Unit)) wf K h => by
  obtain ⟨a, n, ⟨⟩⟩ := x
  replace h : K (.agg (enc tV (scaleV a n))) [] := h
  rw [w_impl_ScaleVector a n K]
  exact h

/-! impl.InnerOf -/
noncomputable def c_impl_InnerOf : Ctx := mkC Try.prog tyT [] [] [] 22 (fun _ => none) 0
theorem w_impl_InnerOf (a b : V3) (K : V → Heap → Prop) : wpFn c_impl_InnerOf Try.f123 (encAs [.agg tV, .agg tV] (a, b, ())) [] K =
  K (.float .f32 (fadd FloatKind.f32 (fadd FloatKind.f32 (fmul FloatKind.f32 (Prod.fst a) (Prod.fst b)) (fmul FloatKind.f32 (Prod.fst (Prod.snd a)) (Prod.fst (Prod.snd b)))) (fmul FloatKind.f32 (Prod.snd (Prod.snd a)) (Prod.snd (Prod.snd b))))) [] := by kernel_rfl
noncomputable def s_impl_InnerOf : Sm := semT [.agg tV, .agg tV] fun x => match x with | (a, b, _) => .float .f32 (innerV a b)
theorem ok_impl_InnerOf : FnOk Try.prog 123 s_impl_InnerOf := fnOk_typed (fnOk_runC (C := c_impl_InnerOf) rfl mixed .nil .nil .nil Try.func123 (by kernel_rfl)) fun (x : ((V3) × (V3) × Unit)) wf K h => by
  obtain ⟨a, b, ⟨⟩⟩ := x
  replace h : K (.float .f32 (innerV a b)) [] := h
  rw [w_impl_InnerOf a b K]
  exact h

/-! math.Sqrt -/
noncomputable def c_math_Sqrt : Ctx := mkC Try.prog tyT [(172, s_math_sqrt)] [] [] 5 (fun _ => none) 0
theorem w_math_Sqrt (x : Nat) (K : V → Heap → Prop) : wpFn c_math_Sqrt Try.f154 (encAs [.cell (.float .f64)] (x, ())) [] K =
  K (.float .f64 (fsqrt FloatKind.f64 x)) [] := by kernel_rfl
noncomputable def s_math_Sqrt : Sm := semT [.cell (.float .f64)] fun x => match x with | (x, _) => .float .f64 (fsqrt .f64 x)
theorem ok_math_Sqrt : FnOk Try.prog 154 s_math_Sqrt := fnOk_typed (fnOk_runC (C := c_math_Sqrt) rfl mixed (.cons ok_math_sqrt .nil) .nil .nil Try.func154 (by kernel_rfl)) fun (x : ((Nat) × Unit)) wf K h => by
  obtain ⟨x, ⟨⟩⟩ := x
  replace h : K (.float .f64 (fsqrt .f64 x)) [] := h
  rw [w_math_Sqrt x K]
  exact h

/-! impl.RootNumber -/
noncomputable def c_impl_RootNumber : Ctx := mkC Try.prog tyT [(154, s_math_Sqrt)] [] [] 7 (fun _ => none) 0
theorem w_impl_RootNumber (x : Nat) (K : V → Heap → Prop) : wpFn c_impl_RootNumber Try.f122 (encAs [.cell tF] (x, ())) [] K =
  cond (ovf (fsqrt FloatKind.f64 (widen x)))
    (K .undef [])
    (K (.float .f32 (narrow (fsqrt FloatKind.f64 (widen x)))) []) := by kernel_rfl
noncomputable def s_impl_RootNumber : Sm := semT [.cell tF] fun x => match x with | (x, _) => .float .f32 (rootV x)
theorem ok_impl_RootNumber : FnOk Try.prog 122 s_impl_RootNumber := fnOk_typed (fnOk_runC (C := c_impl_RootNumber) rfl mixed (.cons ok_math_Sqrt .nil) .nil .nil Try.func122 (by kernel_rfl)) fun (x : ((Nat) × Unit)) wf K h => by
  obtain ⟨x, ⟨⟩⟩ := x
  replace h : K (.float .f32 (rootV x)) [] := h
  rw [w_impl_RootNumber x K]
  rw [root_ovf wf.1.1 wf.1.2]
  exact h

/-! impl.LongOf -/
noncomputable def c_impl_LongOf : Ctx := mkC Try.prog tyT [(123, s_impl_InnerOf), (122, s_impl_RootNumber)] [] [] 7 (fun _ => none) 0
theorem w_impl_LongOf (a : V3) (K : V → Heap → Prop) : wpFn c_impl_LongOf Try.f61 (encAs [.agg tV] (a, ())) [] K =
  K (.float .f32 (rootV (innerV a a))) [] := by kernel_rfl
noncomputable def s_impl_LongOf : Sm := semT [.agg tV] fun x => match x with | (a, _) => .float .f32 (longV a)
theorem ok_impl_LongOf : FnOk Try.prog 61 s_impl_LongOf := fnOk_typed (fnOk_runC (C := c_impl_LongOf) rfl mixed (.cons ok_impl_InnerOf (.cons ok_impl_RootNumber .nil)) .nil .nil Try.func61 (by kernel_rfl)) fun (x : ((V3) × Unit)) wf K h => by
  obtain ⟨a, ⟨⟩⟩ := x
  replace h : K (.float .f32 (longV a)) [] := h
  rw [w_impl_LongOf a K]
  exact h

end Go.Proofs.Ytfhpmcdbfebflaa

/- Distances of shapes: walks. -/
set_option linter.unusedVariables false
set_option linter.unusedSimpArgs false
set_option maxRecDepth 100000
namespace Go.Proofs.Ytfhpmcdbfebflaa
open Go.Ev Go.Ev.Fl

--B lsV Nat → Nat → Nat
def lsV (x y : Nat) : Nat := bif flt .f32 y x then y else x
--B grV Nat → Nat → Nat
def grV (x y : Nat) : Nat := bif fgt .f32 y x then y else x
--B absV Nat → Nat
def absV (x : Nat) : Nat := bif flt .f32 x 0 then fneg .f32 x else x
--B shoV Nat → Nat → Nat
def shoV (y d : Nat) : Nat := fsub .f32 y (lsV (grV 0 y) d)
--B bulV Nat → Nat → Nat
def bulV (x k : Nat) : Nat := bif fgt .f32 x 0 then fdiv .f32 (fmul .f32 x x) (fmul .f32 1082130432 k) else 0
--B foldV Nat → Nat → Nat
def foldV (c s : Nat) : Nat := fmul .f32 (fmul .f32 1073741824 s) (rintV (fdiv .f32 c (fmul .f32 1073741824 s)))
def nt (xs : List Nat) (i : Nat) : Nat := (xs[i]?).getD 0
def boxN (xs : List Nat) (p : V3) : Nat :=
  fadd .f32 (longV (grV 0 (fsub .f32 (absV p.1) (nt xs 0)), grV 0 (fsub .f32 (absV p.2.1) (nt xs 1)), grV 0 (fsub .f32 (absV p.2.2) (nt xs 2))))
    (lsV 0 (grV (grV (fsub .f32 (absV p.1) (nt xs 0)) (fsub .f32 (absV p.2.1) (nt xs 1))) (fsub .f32 (absV p.2.2) (nt xs 2))))
--B leafV Int → List Nat → Nat × Nat × Nat → Nat
def leafV (k : Int) (xs : List Nat) (p : V3) : Nat :=
  bif k == 0 then fsub .f32 (longV p) (nt xs 0) else
  bif k == 1 then boxN xs p else
  bif k == 2 then fsub .f32 (longV (p.1, shoV p.2.1 (nt xs 0), p.2.2)) (nt xs 1) else
  bif k == 3 then fsub .f32 (longV (fsub .f32 (longV (p.1, 0, p.2.2)) (nt xs 0), p.2.1, 0)) (nt xs 1) else
  fsub .f32 (innerV p (nt xs 0, nt xs 1, nt xs 2)) (nt xs 3)
def smoN (r x y : Nat) : Nat := bif fgt .f32 (fsub .f32 r (absV (fsub .f32 x y))) 0 then fsub .f32 (lsV x y) (bulV (fsub .f32 r (absV (fsub .f32 x y))) r) else lsV x y
--B mixV Int → List Nat → Nat → Nat → Nat
def mixV (k : Int) (xs : List Nat) (x y : Nat) : Nat :=
  bif k == 5 then lsV x y else bif k == 6 then grV x y else bif k == 7 then grV x (fneg .f32 y) else bif k == 8 then smoN (nt xs 0) x y else
  bif k == 10 then fmul .f32 x (nt xs 0) else bif k == 15 then fsub .f32 x (nt xs 0) else bif k == 16 then fsub .f32 (absV x) (nt xs 0) else x
def c3 (p : V3) (i : Int) : Nat := bif i == 0 then p.1 else bif i == 1 then p.2.1 else p.2.2
def set3 (p : V3) (i : Int) (x : Nat) : V3 := bif i == 0 then (x, p.2.1, p.2.2) else bif i == 1 then (p.1, x, p.2.2) else (p.1, p.2.1, x)
def turnN (a : Int) (v : Nat) (p : V3) : V3 :=
  set3 (set3 p ((a + 1) % 3) (fadd .f32 (fmul .f32 (sineF (fsub .f32 1048576000 v)) (c3 p ((a + 1) % 3))) (fmul .f32 (sineF v) (c3 p ((a + 2) % 3)))))
    ((a + 2) % 3) (fsub .f32 (fmul .f32 (sineF (fsub .f32 1048576000 v)) (c3 p ((a + 2) % 3))) (fmul .f32 (sineF v) (c3 p ((a + 1) % 3))))
--B pointN Int → Int → List Nat → Nat × Nat × Nat → Nat × Nat × Nat
def pointN (k a : Int) (xs : List Nat) (p : V3) : V3 :=
  bif k == 9 then subV p (nt xs 0, nt xs 1, nt xs 2) else
  bif k == 10 then (fdiv .f32 p.1 (nt xs 0), fdiv .f32 p.2.1 (nt xs 0), fdiv .f32 p.2.2 (nt xs 0)) else
  bif k == 11 then (fdiv .f32 p.1 (nt xs 0), fdiv .f32 p.2.1 (nt xs 1), fdiv .f32 p.2.2 (nt xs 2)) else
  bif k == 12 then turnN a (nt xs 0) p else
  bif k == 13 then set3 p a (absV (c3 p a)) else
  bif k == 14 then set3 p a (absV (fsub .f32 (c3 p a) (foldV (c3 p a) (nt xs 0)))) else p
/-- The numbers of a turn are small. -/
--B turnB Int → List Nat → Bool
def turnB (k : Int) (xs : List Nat) : Bool := !(k == 12) || (sineOk (nt xs 0) && sineOk (fsub .f32 1048576000 (nt xs 0)))

/-! impl.lesser -/
noncomputable def c_impl_lesser : Ctx := mkC Try.prog tyT [] [] [] 10 (fun _ => none) 0
theorem w_impl_lesser (x y : Nat) (K : V → Heap → Prop) : wpFn c_impl_lesser Try.f111 (encAs [.cell tF, .cell tF] (x, y, ())) [] K =
  cond (flt FloatKind.f32 y x)
    (K (.float .f32 (y)) [])
    (K (.float .f32 (x)) []) := by kernel_rfl
noncomputable def s_impl_lesser : Sm := semT [.cell tF, .cell tF] fun x => match x with | (x, y, _) => .float .f32 (lsV x y)
theorem ok_impl_lesser : FnOk Try.prog 111 s_impl_lesser := fnOk_typed (fnOk_runC (C := c_impl_lesser) rfl mixed .nil .nil .nil Try.func111 (by kernel_rfl)) fun (x : ((Nat) × (Nat) × Unit)) wf K h => by
  obtain ⟨x, y, ⟨⟩⟩ := x
  replace h : K (.float .f32 (lsV x y)) [] := h
  rw [w_impl_lesser x y K]
  revert h
  unfold lsV
  cases flt .f32 y x <;> exact id

/-! impl.greater -/
noncomputable def c_impl_greater : Ctx := mkC Try.prog tyT [] [] [] 10 (fun _ => none) 0
theorem w_impl_greater (x y : Nat) (K : V → Heap → Prop) : wpFn c_impl_greater Try.f164 (encAs [.cell tF, .cell tF] (x, y, ())) [] K =
  cond (fgt FloatKind.f32 y x)
    (K (.float .f32 (y)) [])
    (K (.float .f32 (x)) []) := by kernel_rfl
noncomputable def s_impl_greater : Sm := semT [.cell tF, .cell tF] fun x => match x with | (x, y, _) => .float .f32 (grV x y)
theorem ok_impl_greater : FnOk Try.prog 164 s_impl_greater := fnOk_typed (fnOk_runC (C := c_impl_greater) rfl mixed .nil .nil .nil Try.func164 (by kernel_rfl)) fun (x : ((Nat) × (Nat) × Unit)) wf K h => by
  obtain ⟨x, y, ⟨⟩⟩ := x
  replace h : K (.float .f32 (grV x y)) [] := h
  rw [w_impl_greater x y K]
  revert h
  unfold grV
  cases fgt .f32 y x <;> exact id

/-! impl.sizeOf -/
noncomputable def c_impl_sizeOf : Ctx := mkC Try.prog tyT [] [] [] 8 (fun _ => none) 0
theorem w_impl_sizeOf (x : Nat) (K : V → Heap → Prop) : wpFn c_impl_sizeOf Try.f118 (encAs [.cell tF] (x, ())) [] K =
  cond (flt FloatKind.f32 x 0)
    (K (.float .f32 (fneg FloatKind.f32 x)) [])
    (K (.float .f32 (x)) []) := by kernel_rfl
noncomputable def s_impl_sizeOf : Sm := semT [.cell tF] fun x => match x with | (x, _) => .float .f32 (absV x)
theorem ok_impl_sizeOf : FnOk Try.prog 118 s_impl_sizeOf := fnOk_typed (fnOk_runC (C := c_impl_sizeOf) rfl mixed .nil .nil .nil Try.func118 (by kernel_rfl)) fun (x : ((Nat) × Unit)) wf K h => by
  obtain ⟨x, ⟨⟩⟩ := x
  replace h : K (.float .f32 (absV x)) [] := h
  rw [w_impl_sizeOf x K]
  revert h
  unfold absV
  cases flt .f32 x 0 <;> exact id

/-! impl.shortened -/
noncomputable def c_impl_shortened : Ctx := mkC Try.prog tyT [(111, s_impl_lesser), (164, s_impl_greater)] [] [] 11 (fun _ => none) 0
theorem w_impl_shortened (y d : Nat) (K : V → Heap → Prop) : wpFn c_impl_shortened Try.f165 (encAs [.cell tF, .cell tF] (y, d, ())) [] K =
  K (.float .f32 (fsub FloatKind.f32 y (lsV (grV 0 y) d))) [] := by kernel_rfl
noncomputable def s_impl_shortened : Sm := semT [.cell tF, .cell tF] fun x => match x with | (y, d, _) => .float .f32 (shoV y d)
theorem ok_impl_shortened : FnOk Try.prog 165 s_impl_shortened := fnOk_typed (fnOk_runC (C := c_impl_shortened) rfl mixed (.cons ok_impl_lesser (.cons ok_impl_greater .nil)) .nil .nil Try.func165 (by kernel_rfl)) fun (x : ((Nat) × (Nat) × Unit)) wf K h => by
  obtain ⟨y, d, ⟨⟩⟩ := x
  replace h : K (.float .f32 (shoV y d)) [] := h
  rw [w_impl_shortened y d K]
  exact h

/-! impl.bulge -/
noncomputable def c_impl_bulge : Ctx := mkC Try.prog tyT [] [] [] 13 (fun _ => none) 0
theorem w_impl_bulge (x k : Nat) (K : V → Heap → Prop) : wpFn c_impl_bulge Try.f166 (encAs [.cell tF, .cell tF] (x, k, ())) [] K =
  cond (fgt FloatKind.f32 x 0)
    (K (.float .f32 (fdiv FloatKind.f32 (fmul FloatKind.f32 x x) (fmul FloatKind.f32 1082130432 k))) [])
    (K (.float .f32 0) []) := by kernel_rfl
noncomputable def s_impl_bulge : Sm := semT [.cell tF, .cell tF] fun x => match x with | (x, k, _) => .float .f32 (bulV x k)
theorem ok_impl_bulge : FnOk Try.prog 166 s_impl_bulge := fnOk_typed (fnOk_runC (C := c_impl_bulge) rfl mixed .nil .nil .nil Try.func166 (by kernel_rfl)) fun (x : ((Nat) × (Nat) × Unit)) wf K h => by
  obtain ⟨x, k, ⟨⟩⟩ := x
  replace h : K (.float .f32 (bulV x k)) [] := h
  rw [w_impl_bulge x k K]
  revert h
  unfold bulV
  cases fgt .f32 x 0 <;> exact id

/-! impl.foldOf -/
noncomputable def c_impl_foldOf : Ctx := mkC Try.prog tyT [(163, s_impl_nearest)] [] [] 13 (fun _ => none) 0
theorem w_impl_foldOf (x s : Nat) (K : V → Heap → Prop) : wpFn c_impl_foldOf Try.f137 (encAs [.cell tF, .cell tF] (x, s, ())) [] K =
  K (.float .f32 (fmul FloatKind.f32 (fmul FloatKind.f32 1073741824 s) (rintV (fdiv FloatKind.f32 x (fmul FloatKind.f32 1073741824 s))))) [] := by kernel_rfl
noncomputable def s_impl_foldOf : Sm := semT [.cell tF, .cell tF] fun x => match x with | (x, s, _) => .float .f32 (foldV x s)
theorem ok_impl_foldOf : FnOk Try.prog 137 s_impl_foldOf := fnOk_typed (fnOk_runC (C := c_impl_foldOf) rfl mixed (.cons ok_impl_nearest .nil) .nil .nil Try.func137 (by kernel_rfl)) fun (x : ((Nat) × (Nat) × Unit)) wf K h => by
  obtain ⟨x, s, ⟨⟩⟩ := x
  replace h : K (.float .f32 (foldV x s)) [] := h
  rw [w_impl_foldOf x s K]
  exact h

/-! impl.coordinates -/
noncomputable def c_impl_coordinates : Ctx := mkC Try.prog tyT [] [] [] 10 (fun _ => none) 0
theorem w_impl_coordinates (u v w : Nat) (K : V → Heap → Prop) : wpFn c_impl_coordinates Try.f135 (encAs [.agg tV] ((u, v, w), ())) [] K =
  K (.agg [(.float .f32 (u)), (.float .f32 (v)), (.float .f32 (w))]) [] := by kernel_rfl
noncomputable def s_impl_coordinates : Sm := semT [.agg tV] fun x => match x with | ((u, v, w), _) => .agg [.float .f32 u, .float .f32 v, .float .f32 w]
theorem ok_impl_coordinates : FnOk Try.prog 135 s_impl_coordinates := fnOk_typed (fnOk_runC (C := c_impl_coordinates) rfl mixed .nil .nil .nil Try.func135 (by kernel_rfl)) fun (x : (((Nat) × (Nat) × (Nat)) × Unit)) wf K h => by
  obtain ⟨⟨u, v, w⟩, ⟨⟩⟩ := x
  replace h : K (.agg [.float .f32 u, .float .f32 v, .float .f32 w]) [] := h
  rw [w_impl_coordinates u v w K]
  exact h

/-! impl.vectorOf -/
noncomputable def c_impl_vectorOf : Ctx := mkC Try.prog tyT [] [] [] 10 (fun _ => none) 0
theorem w_impl_vectorOf (u v w : Nat) (K : V → Heap → Prop) : wpFn c_impl_vectorOf Try.f138 (encAs [.agg tV] ((u, v, w), ())) [] K =
  K (.agg [(.float .f32 (u)), (.float .f32 (v)), (.float .f32 (w))]) [] := by kernel_rfl
noncomputable def s_impl_vectorOf : Sm := semT [.agg tV] fun x => match x with | ((u, v, w), _) => .agg [.float .f32 u, .float .f32 v, .float .f32 w]
theorem ok_impl_vectorOf : FnOk Try.prog 138 s_impl_vectorOf := fnOk_typed (fnOk_runC (C := c_impl_vectorOf) rfl mixed .nil .nil .nil Try.func138 (by kernel_rfl)) fun (x : (((Nat) × (Nat) × (Nat)) × Unit)) wf K h => by
  obtain ⟨⟨u, v, w⟩, ⟨⟩⟩ := x
  replace h : K (.agg [.float .f32 u, .float .f32 v, .float .f32 w]) [] := h
  rw [w_impl_vectorOf u v w K]
  exact h

theorem nums_len {k : Int} {xs : List Nat} (h : numsB k xs = true) : (xs.length : Int) = kindN k := by
  unfold numsB at h
  simp only [Bool.and_eq_true, beq_iff_eq] at h
  exact h.2.1
theorem nums_isK {k : Int} {xs : List Nat} (h : numsB k xs = true) : isK k = true := by
  unfold numsB at h
  simp only [Bool.and_eq_true] at h
  exact h.1
theorem list1 {xs : List Nat} (h : (xs.length : Int) = 1) : ∃ x, xs = [x] := List.length_eq_one_iff.1 (by omega)
theorem list2 {xs : List Nat} (h : (xs.length : Int) = 2) : ∃ x y, xs = [x, y] := by
  match xs, h with
  | [x, y], _ => exact ⟨x, y, rfl⟩
  | [], h => simp at h
  | [_], h => simp at h
  | _ :: _ :: _ :: _, h => simp only [List.length_cons] at h; omega
theorem list3 {xs : List Nat} (h : (xs.length : Int) = 3) : ∃ x y z, xs = [x, y, z] := by
  match xs, h with
  | [x, y, z], _ => exact ⟨x, y, z, rfl⟩
  | [], h => simp at h
  | [_], h => simp at h
  | [_, _], h => simp at h
  | _ :: _ :: _ :: _ :: _, h => simp only [List.length_cons] at h; omega
theorem list4 {xs : List Nat} (h : (xs.length : Int) = 4) : ∃ x y z w, xs = [x, y, z, w] := by
  match xs, h with
  | [x, y, z, w], _ => exact ⟨x, y, z, w, rfl⟩
  | [], h => simp at h
  | [_], h => simp at h
  | [_, _], h => simp at h
  | [_, _, _], h => simp at h
  | _ :: _ :: _ :: _ :: _ :: _, h => simp only [List.length_cons] at h; omega

/-! (*impl.Node).leaf -/
noncomputable def c_impl_Node_leaf : Ctx := mkC Try.prog tyT [(61, s_impl_LongOf), (118, s_impl_sizeOf), (164, s_impl_greater), (111, s_impl_lesser), (165, s_impl_shortened), (123, s_impl_InnerOf)] [] [] 117 (fun _ => none) 0
theorem w_impl_Node_leaf_0 (a c : Int) (xs : List Nat) (p : V3) (K : V → Heap → Prop) : wpFn c_impl_Node_leaf Try.f139 (encAs [.ref tN, .agg tV] ((0, a, c, xs), p, ())) [] K =
  (match xs[0]? with
    | some y0 => K (.float .f32 (fsub FloatKind.f32 (longV p) y0)) []
    | none => False) := by kernel_rfl
theorem w_impl_Node_leaf_1 (a c : Int) (xs : List Nat) (p : V3) (K : V → Heap → Prop) : wpFn c_impl_Node_leaf Try.f139 (encAs [.ref tN, .agg tV] ((1, a, c, xs), p, ())) [] K =
  (match xs[0]? with
    | some y0 => (match xs[1]? with
      | some y1 => (match xs[2]? with
        | some y2 => K (.float .f32 (fadd FloatKind.f32 (longV (grV 0 (fsub FloatKind.f32 (absV (Prod.fst p)) y0), grV 0 (fsub FloatKind.f32 (absV (Prod.fst (Prod.snd p))) y1), grV 0 (fsub FloatKind.f32 (absV (Prod.snd (Prod.snd p))) y2))) (lsV 0 (grV (grV (fsub FloatKind.f32 (absV (Prod.fst p)) y0) (fsub FloatKind.f32 (absV (Prod.fst (Prod.snd p))) y1)) (fsub FloatKind.f32 (absV (Prod.snd (Prod.snd p))) y2))))) []
        | none => False)
      | none => False)
    | none => False) := by kernel_rfl
theorem w_impl_Node_leaf_2 (a c : Int) (xs : List Nat) (p : V3) (K : V → Heap → Prop) : wpFn c_impl_Node_leaf Try.f139 (encAs [.ref tN, .agg tV] ((2, a, c, xs), p, ())) [] K =
  (match xs[0]? with
    | some y0 => (match xs[1]? with
      | some y1 => K (.float .f32 (fsub FloatKind.f32 (longV (Prod.fst p, shoV (Prod.fst (Prod.snd p)) y0, Prod.snd (Prod.snd p))) y1)) []
      | none => False)
    | none => False) := by kernel_rfl
theorem w_impl_Node_leaf_3 (a c : Int) (xs : List Nat) (p : V3) (K : V → Heap → Prop) : wpFn c_impl_Node_leaf Try.f139 (encAs [.ref tN, .agg tV] ((3, a, c, xs), p, ())) [] K =
  (match xs[0]? with
    | some y0 => (match xs[1]? with
      | some y1 => K (.float .f32 (fsub FloatKind.f32 (longV (fsub FloatKind.f32 (longV (Prod.fst p, 0, Prod.snd (Prod.snd p))) y0, Prod.fst (Prod.snd p), 0)) y1)) []
      | none => False)
    | none => False) := by kernel_rfl
theorem w_impl_Node_leaf_4 (a c : Int) (xs : List Nat) (p : V3) (K : V → Heap → Prop) : wpFn c_impl_Node_leaf Try.f139 (encAs [.ref tN, .agg tV] ((4, a, c, xs), p, ())) [] K =
  (match xs[0]? with
    | some y0 => (match xs[1]? with
      | some y1 => (match xs[2]? with
        | some y2 => (match xs[3]? with
          | some y3 => K (.float .f32 (fsub FloatKind.f32 (innerV p (y0, y1, y2)) y3)) []
          | none => False)
        | none => False)
      | none => False)
    | none => False) := by kernel_rfl
noncomputable def s_impl_Node_leaf : Sm := semG [.ref tN, .agg tV] (fun x => match x with | ((k, a, c, xs), p, _) => numsB k xs && inR k 0 4) fun x => match x with | ((k, a, c, xs), p, _) => .float .f32 (leafV k xs p)
theorem ok_impl_Node_leaf : FnOk Try.prog 139 s_impl_Node_leaf := fnOk_typedG (fnOk_runC (C := c_impl_Node_leaf) rfl mixed (.cons ok_impl_LongOf (.cons ok_impl_sizeOf (.cons ok_impl_greater (.cons ok_impl_lesser (.cons ok_impl_shortened (.cons ok_impl_InnerOf .nil)))))) .nil .nil Try.func139 (by kernel_rfl)) fun (x : (((Int) × (Int) × (Int) × (List Nat)) × (V3) × Unit)) wf hg K h => by
  obtain ⟨⟨k, a, c, xs⟩, p, ⟨⟩⟩ := x
  replace hg : (numsB k xs && inR k 0 4) = true := hg
  replace h : K (.float .f32 (leafV k xs p)) [] := h
  simp only [Bool.and_eq_true] at hg
  obtain ⟨h1, h2⟩ := hg
  have hl := nums_len h1
  have h2 := inR_iff.1 h2
  rcases (by omega : k = 0 ∨ k = 1 ∨ k = 2 ∨ k = 3 ∨ k = 4) with rfl | rfl | rfl | rfl | rfl
  · obtain ⟨x, rfl⟩ := list1 hl
    rw [w_impl_Node_leaf_0 a c _ p K]; exact Eq.mp (by kernel_rfl) h
  · obtain ⟨x, y, z, rfl⟩ := list3 hl
    rw [w_impl_Node_leaf_1 a c _ p K]; exact Eq.mp (by kernel_rfl) h
  · obtain ⟨x, y, rfl⟩ := list2 hl
    rw [w_impl_Node_leaf_2 a c _ p K]; exact Eq.mp (by kernel_rfl) h
  · obtain ⟨x, y, rfl⟩ := list2 hl
    rw [w_impl_Node_leaf_3 a c _ p K]; exact Eq.mp (by kernel_rfl) h
  · obtain ⟨x, y, z, w, rfl⟩ := list4 hl
    rw [w_impl_Node_leaf_4 a c _ p K]; exact Eq.mp (by kernel_rfl) h

/-! (*impl.Node).mix -/
noncomputable def c_impl_Node_mix : Ctx := mkC Try.prog tyT [(111, s_impl_lesser), (164, s_impl_greater), (118, s_impl_sizeOf), (166, s_impl_bulge)] [] [] 90 (fun _ => none) 0
theorem w_impl_Node_mix_5 (a c : Int) (xs : List Nat) (u v : Nat) (K : V → Heap → Prop) : wpFn c_impl_Node_mix Try.f140 (encAs [.ref tN, .cell tF, .cell tF] ((5, a, c, xs), u, v, ())) [] K =
  K (.float .f32 (lsV u v)) [] := by kernel_rfl
theorem w_impl_Node_mix_6 (a c : Int) (xs : List Nat) (u v : Nat) (K : V → Heap → Prop) : wpFn c_impl_Node_mix Try.f140 (encAs [.ref tN, .cell tF, .cell tF] ((6, a, c, xs), u, v, ())) [] K =
  K (.float .f32 (grV u v)) [] := by kernel_rfl
theorem w_impl_Node_mix_7 (a c : Int) (xs : List Nat) (u v : Nat) (K : V → Heap → Prop) : wpFn c_impl_Node_mix Try.f140 (encAs [.ref tN, .cell tF, .cell tF] ((7, a, c, xs), u, v, ())) [] K =
  K (.float .f32 (grV u (fneg FloatKind.f32 v))) [] := by kernel_rfl
theorem w_impl_Node_mix_8 (a c : Int) (xs : List Nat) (u v : Nat) (K : V → Heap → Prop) : wpFn c_impl_Node_mix Try.f140 (encAs [.ref tN, .cell tF, .cell tF] ((8, a, c, xs), u, v, ())) [] K =
  (match xs[0]? with
    | some y0 => cond (fgt FloatKind.f32 (fsub FloatKind.f32 y0 (absV (fsub FloatKind.f32 u v))) 0)
      ((match xs[0]? with
        | some y1 => K (.float .f32 (fsub FloatKind.f32 (lsV u v) (bulV (fsub FloatKind.f32 y0 (absV (fsub FloatKind.f32 u v))) y1))) []
        | none => False))
      (K (.float .f32 (lsV u v)) [])
    | none => False) := by kernel_rfl
theorem w_impl_Node_mix_9 (a c : Int) (xs : List Nat) (u v : Nat) (K : V → Heap → Prop) : wpFn c_impl_Node_mix Try.f140 (encAs [.ref tN, .cell tF, .cell tF] ((9, a, c, xs), u, v, ())) [] K =
  K (.float .f32 (u)) [] := by kernel_rfl
theorem w_impl_Node_mix_10 (a c : Int) (xs : List Nat) (u v : Nat) (K : V → Heap → Prop) : wpFn c_impl_Node_mix Try.f140 (encAs [.ref tN, .cell tF, .cell tF] ((10, a, c, xs), u, v, ())) [] K =
  (match xs[0]? with
    | some y0 => K (.float .f32 (fmul FloatKind.f32 u y0)) []
    | none => False) := by kernel_rfl
theorem w_impl_Node_mix_11 (a c : Int) (xs : List Nat) (u v : Nat) (K : V → Heap → Prop) : wpFn c_impl_Node_mix Try.f140 (encAs [.ref tN, .cell tF, .cell tF] ((11, a, c, xs), u, v, ())) [] K =
  K (.float .f32 (u)) [] := by kernel_rfl
theorem w_impl_Node_mix_12 (a c : Int) (xs : List Nat) (u v : Nat) (K : V → Heap → Prop) : wpFn c_impl_Node_mix Try.f140 (encAs [.ref tN, .cell tF, .cell tF] ((12, a, c, xs), u, v, ())) [] K =
  K (.float .f32 (u)) [] := by kernel_rfl
theorem w_impl_Node_mix_13 (a c : Int) (xs : List Nat) (u v : Nat) (K : V → Heap → Prop) : wpFn c_impl_Node_mix Try.f140 (encAs [.ref tN, .cell tF, .cell tF] ((13, a, c, xs), u, v, ())) [] K =
  K (.float .f32 (u)) [] := by kernel_rfl
theorem w_impl_Node_mix_14 (a c : Int) (xs : List Nat) (u v : Nat) (K : V → Heap → Prop) : wpFn c_impl_Node_mix Try.f140 (encAs [.ref tN, .cell tF, .cell tF] ((14, a, c, xs), u, v, ())) [] K =
  K (.float .f32 (u)) [] := by kernel_rfl
theorem w_impl_Node_mix_15 (a c : Int) (xs : List Nat) (u v : Nat) (K : V → Heap → Prop) : wpFn c_impl_Node_mix Try.f140 (encAs [.ref tN, .cell tF, .cell tF] ((15, a, c, xs), u, v, ())) [] K =
  (match xs[0]? with
    | some y0 => K (.float .f32 (fsub FloatKind.f32 u y0)) []
    | none => False) := by kernel_rfl
theorem w_impl_Node_mix_16 (a c : Int) (xs : List Nat) (u v : Nat) (K : V → Heap → Prop) : wpFn c_impl_Node_mix Try.f140 (encAs [.ref tN, .cell tF, .cell tF] ((16, a, c, xs), u, v, ())) [] K =
  (match xs[0]? with
    | some y0 => K (.float .f32 (fsub FloatKind.f32 (absV u) y0)) []
    | none => False) := by kernel_rfl
noncomputable def s_impl_Node_mix : Sm := semG [.ref tN, .cell tF, .cell tF] (fun x => match x with | ((k, a, c, xs), u, v, _) => numsB k xs && inR k 5 16) fun x => match x with | ((k, a, c, xs), u, v, _) => .float .f32 (mixV k xs u v)
theorem ok_impl_Node_mix : FnOk Try.prog 140 s_impl_Node_mix := fnOk_typedG (fnOk_runC (C := c_impl_Node_mix) rfl mixed (.cons ok_impl_lesser (.cons ok_impl_greater (.cons ok_impl_sizeOf (.cons ok_impl_bulge .nil)))) .nil .nil Try.func140 (by kernel_rfl)) fun (x : (((Int) × (Int) × (Int) × (List Nat)) × (Nat) × (Nat) × Unit)) wf hg K h => by
  obtain ⟨⟨k, a, c, xs⟩, u, v, ⟨⟩⟩ := x
  replace hg : (numsB k xs && inR k 5 16) = true := hg
  replace h : K (.float .f32 (mixV k xs u v)) [] := h
  simp only [Bool.and_eq_true] at hg
  obtain ⟨h1, h2⟩ := hg
  have hl := nums_len h1
  have h2 := inR_iff.1 h2
  rcases (by omega : k = 5 ∨ k = 6 ∨ k = 7 ∨ k = 8 ∨ k = 9 ∨ k = 10 ∨ k = 11 ∨ k = 12 ∨ k = 13 ∨ k = 14 ∨ k = 15 ∨ k = 16) with rfl | rfl | rfl | rfl | rfl | rfl | rfl | rfl | rfl | rfl | rfl | rfl
  · rw [w_impl_Node_mix_5 a c _ u v K]; exact Eq.mp (by kernel_rfl) h
  · rw [w_impl_Node_mix_6 a c _ u v K]; exact Eq.mp (by kernel_rfl) h
  · rw [w_impl_Node_mix_7 a c _ u v K]; exact Eq.mp (by kernel_rfl) h
  · obtain ⟨x, rfl⟩ := list1 hl
    rw [w_impl_Node_mix_8 a c _ u v K]
    replace h : K (.float .f32 (smoN x u v)) [] := h
    unfold smoN at h
    show cond (fgt .f32 (fsub .f32 x (absV (fsub .f32 u v))) 0) (K (.float .f32 (fsub .f32 (lsV u v) (bulV (fsub .f32 x (absV (fsub .f32 u v))) x))) []) (K (.float .f32 (lsV u v)) [])
    revert h
    cases fgt .f32 (fsub .f32 x (absV (fsub .f32 u v))) 0 <;> exact id
  · rw [w_impl_Node_mix_9 a c _ u v K]; exact Eq.mp (by kernel_rfl) h
  · obtain ⟨x, rfl⟩ := list1 hl
    rw [w_impl_Node_mix_10 a c _ u v K]; exact Eq.mp (by kernel_rfl) h
  · rw [w_impl_Node_mix_11 a c _ u v K]; exact Eq.mp (by kernel_rfl) h
  · rw [w_impl_Node_mix_12 a c _ u v K]; exact Eq.mp (by kernel_rfl) h
  · rw [w_impl_Node_mix_13 a c _ u v K]; exact Eq.mp (by kernel_rfl) h
  · rw [w_impl_Node_mix_14 a c _ u v K]; exact Eq.mp (by kernel_rfl) h
  · obtain ⟨x, rfl⟩ := list1 hl
    rw [w_impl_Node_mix_15 a c _ u v K]; exact Eq.mp (by kernel_rfl) h
  · obtain ⟨x, rfl⟩ := list1 hl
    rw [w_impl_Node_mix_16 a c _ u v K]; exact Eq.mp (by kernel_rfl) h

/-! (*impl.Node).point -/
noncomputable def c_impl_Node_point : Ctx := mkC Try.prog tyT [(135, s_impl_coordinates), (39, s_impl_LessVectors), (136, s_impl_SineTurns), (118, s_impl_sizeOf), (137, s_impl_foldOf), (138, s_impl_vectorOf)] [] [] 167 (fun _ => none) 0 false [(135, s_impl_coordinates), (39, s_impl_LessVectors), (136, s_impl_SineTurns), (118, s_impl_sizeOf), (137, s_impl_foldOf), (138, s_impl_vectorOf)] false true true []
theorem w_impl_Node_point_9 (a c : Int) (xs : List Nat) (u v w : Nat) (K : V → Heap → Prop) : wpFn c_impl_Node_point Try.f85 (encAs [.ref tN, .agg tV] ((9, a, c, xs), (u, v, w), ())) [] K =
  (match xs[0]? with
    | some y0 => (match xs[1]? with
      | some y1 => (match xs[2]? with
        | some y2 => K (.agg [(.float .f32 (Prod.fst (subV (u, v, w) (y0, y1, y2)))), (.float .f32 (Prod.fst (Prod.snd (subV (u, v, w) (y0, y1, y2))))), (.float .f32 (Prod.snd (Prod.snd (subV (u, v, w) (y0, y1, y2)))))]) []
        | none => False)
      | none => False)
    | none => False) := by kernel_rfl
theorem w_impl_Node_point_10 (a c : Int) (xs : List Nat) (u v w : Nat) (K : V → Heap → Prop) : wpFn c_impl_Node_point Try.f85 (encAs [.ref tN, .agg tV] ((10, a, c, xs), (u, v, w), ())) [] K =
  (match xs[0]? with
    | some y0 => (match xs[0]? with
      | some y1 => (match xs[0]? with
        | some y2 => K (.agg [(.float .f32 (fdiv FloatKind.f32 u y0)), (.float .f32 (fdiv FloatKind.f32 v y1)), (.float .f32 (fdiv FloatKind.f32 w y2))]) []
        | none => False)
      | none => False)
    | none => False) := by kernel_rfl
theorem w_impl_Node_point_11 (a c : Int) (xs : List Nat) (u v w : Nat) (K : V → Heap → Prop) : wpFn c_impl_Node_point Try.f85 (encAs [.ref tN, .agg tV] ((11, a, c, xs), (u, v, w), ())) [] K =
  (match xs[0]? with
    | some y0 => (match xs[1]? with
      | some y1 => (match xs[2]? with
        | some y2 => K (.agg [(.float .f32 (fdiv FloatKind.f32 u y0)), (.float .f32 (fdiv FloatKind.f32 v y1)), (.float .f32 (fdiv FloatKind.f32 w y2))]) []
        | none => False)
      | none => False)
    | none => False) := by kernel_rfl
theorem w_impl_Node_point_12_0 (a : Int) (xs : List Nat) (u v w : Nat) (K : V → Heap → Prop) : wpFn c_impl_Node_point Try.f85 (encAs [.ref tN, .agg tV] ((12, a, 0, xs), (u, v, w), ())) [] K =
  (match xs[0]? with
    | some y0 => cond (sineOk (fsub FloatKind.f32 1048576000 y0))
      ((match xs[0]? with
        | some y1 => cond (sineOk y1)
          (K (.agg [(.float .f32 (u)), (.float .f32 (fadd FloatKind.f32 (fmul FloatKind.f32 (sineF (fsub FloatKind.f32 1048576000 y0)) v) (fmul FloatKind.f32 (sineF y1) w))), (.float .f32 (fsub FloatKind.f32 (fmul FloatKind.f32 (sineF (fsub FloatKind.f32 1048576000 y0)) w) (fmul FloatKind.f32 (sineF y1) v)))]) [])
          (False)
        | none => False))
      (False)
    | none => False) := by kernel_rfl
theorem w_impl_Node_point_12_1 (a : Int) (xs : List Nat) (u v w : Nat) (K : V → Heap → Prop) : wpFn c_impl_Node_point Try.f85 (encAs [.ref tN, .agg tV] ((12, a, 1, xs), (u, v, w), ())) [] K =
  (match xs[0]? with
    | some y0 => cond (sineOk (fsub FloatKind.f32 1048576000 y0))
      ((match xs[0]? with
        | some y1 => cond (sineOk y1)
          (K (.agg [(.float .f32 (fsub FloatKind.f32 (fmul FloatKind.f32 (sineF (fsub FloatKind.f32 1048576000 y0)) u) (fmul FloatKind.f32 (sineF y1) w))), (.float .f32 (v)), (.float .f32 (fadd FloatKind.f32 (fmul FloatKind.f32 (sineF (fsub FloatKind.f32 1048576000 y0)) w) (fmul FloatKind.f32 (sineF y1) u)))]) [])
          (False)
        | none => False))
      (False)
    | none => False) := by kernel_rfl
theorem w_impl_Node_point_12_2 (a : Int) (xs : List Nat) (u v w : Nat) (K : V → Heap → Prop) : wpFn c_impl_Node_point Try.f85 (encAs [.ref tN, .agg tV] ((12, a, 2, xs), (u, v, w), ())) [] K =
  (match xs[0]? with
    | some y0 => cond (sineOk (fsub FloatKind.f32 1048576000 y0))
      ((match xs[0]? with
        | some y1 => cond (sineOk y1)
          (K (.agg [(.float .f32 (fadd FloatKind.f32 (fmul FloatKind.f32 (sineF (fsub FloatKind.f32 1048576000 y0)) u) (fmul FloatKind.f32 (sineF y1) v))), (.float .f32 (fsub FloatKind.f32 (fmul FloatKind.f32 (sineF (fsub FloatKind.f32 1048576000 y0)) v) (fmul FloatKind.f32 (sineF y1) u))), (.float .f32 (w))]) [])
          (False)
        | none => False))
      (False)
    | none => False) := by kernel_rfl
theorem w_impl_Node_point_13_0 (a : Int) (xs : List Nat) (u v w : Nat) (K : V → Heap → Prop) : wpFn c_impl_Node_point Try.f85 (encAs [.ref tN, .agg tV] ((13, a, 0, xs), (u, v, w), ())) [] K =
  K (.agg [(.float .f32 (absV u)), (.float .f32 (v)), (.float .f32 (w))]) [] := by kernel_rfl
theorem w_impl_Node_point_13_1 (a : Int) (xs : List Nat) (u v w : Nat) (K : V → Heap → Prop) : wpFn c_impl_Node_point Try.f85 (encAs [.ref tN, .agg tV] ((13, a, 1, xs), (u, v, w), ())) [] K =
  K (.agg [(.float .f32 (u)), (.float .f32 (absV v)), (.float .f32 (w))]) [] := by kernel_rfl
theorem w_impl_Node_point_13_2 (a : Int) (xs : List Nat) (u v w : Nat) (K : V → Heap → Prop) : wpFn c_impl_Node_point Try.f85 (encAs [.ref tN, .agg tV] ((13, a, 2, xs), (u, v, w), ())) [] K =
  K (.agg [(.float .f32 (u)), (.float .f32 (v)), (.float .f32 (absV w))]) [] := by kernel_rfl
theorem w_impl_Node_point_14_0 (a : Int) (xs : List Nat) (u v w : Nat) (K : V → Heap → Prop) : wpFn c_impl_Node_point Try.f85 (encAs [.ref tN, .agg tV] ((14, a, 0, xs), (u, v, w), ())) [] K =
  (match xs[0]? with
    | some y0 => K (.agg [(.float .f32 (absV (fsub FloatKind.f32 u (foldV u y0)))), (.float .f32 (v)), (.float .f32 (w))]) []
    | none => False) := by kernel_rfl
theorem w_impl_Node_point_14_1 (a : Int) (xs : List Nat) (u v w : Nat) (K : V → Heap → Prop) : wpFn c_impl_Node_point Try.f85 (encAs [.ref tN, .agg tV] ((14, a, 1, xs), (u, v, w), ())) [] K =
  (match xs[0]? with
    | some y0 => K (.agg [(.float .f32 (u)), (.float .f32 (absV (fsub FloatKind.f32 v (foldV v y0)))), (.float .f32 (w))]) []
    | none => False) := by kernel_rfl
theorem w_impl_Node_point_14_2 (a : Int) (xs : List Nat) (u v w : Nat) (K : V → Heap → Prop) : wpFn c_impl_Node_point Try.f85 (encAs [.ref tN, .agg tV] ((14, a, 2, xs), (u, v, w), ())) [] K =
  (match xs[0]? with
    | some y0 => K (.agg [(.float .f32 (u)), (.float .f32 (v)), (.float .f32 (absV (fsub FloatKind.f32 w (foldV w y0))))]) []
    | none => False) := by kernel_rfl
theorem w_impl_Node_point_15 (a c : Int) (xs : List Nat) (u v w : Nat) (K : V → Heap → Prop) : wpFn c_impl_Node_point Try.f85 (encAs [.ref tN, .agg tV] ((15, a, c, xs), (u, v, w), ())) [] K =
  K (.agg [(.float .f32 (u)), (.float .f32 (v)), (.float .f32 (w))]) [] := by kernel_rfl
theorem w_impl_Node_point_16 (a c : Int) (xs : List Nat) (u v w : Nat) (K : V → Heap → Prop) : wpFn c_impl_Node_point Try.f85 (encAs [.ref tN, .agg tV] ((16, a, c, xs), (u, v, w), ())) [] K =
  K (.agg [(.float .f32 (u)), (.float .f32 (v)), (.float .f32 (w))]) [] := by kernel_rfl
noncomputable def s_impl_Node_point : Sm := semG [.ref tN, .agg tV] (fun x => match x with | ((k, a, c, xs), (u, v, w), _) => numsB k xs && (inR k 9 16 && (axB k a c && turnB k xs))) fun x => match x with | ((k, a, c, xs), (u, v, w), _) => .agg (enc tV (pointN k c xs (u, v, w)))
theorem ok_impl_Node_point : FnOk Try.prog 85 s_impl_Node_point := fnOk_typedG (fnOk_runC (C := c_impl_Node_point) rfl mixed (.cons ok_impl_coordinates (.cons ok_impl_LessVectors (.cons ok_impl_SineTurns (.cons ok_impl_sizeOf (.cons ok_impl_foldOf (.cons ok_impl_vectorOf .nil)))))) .nil .nil Try.func85 (by kernel_rfl) (.cons ok_impl_coordinates (.cons ok_impl_LessVectors (.cons ok_impl_SineTurns (.cons ok_impl_sizeOf (.cons ok_impl_foldOf (.cons ok_impl_vectorOf .nil))))))) fun (x : (((Int) × (Int) × (Int) × (List Nat)) × ((Nat) × (Nat) × (Nat)) × Unit)) wf hg K h => by
  obtain ⟨⟨k, a, c, xs⟩, ⟨u, v, w⟩, ⟨⟩⟩ := x
  replace hg : (numsB k xs && (inR k 9 16 && (axB k a c && turnB k xs))) = true := hg
  replace h : K (.agg (enc tV (pointN k c xs (u, v, w)))) [] := h
  simp only [Bool.and_eq_true] at hg
  obtain ⟨h1, h2, h3, h4⟩ := hg
  have hl := nums_len h1
  have h2 := inR_iff.1 h2
  have ax : k = 12 ∨ k = 13 ∨ k = 14 → c = 0 ∨ c = 1 ∨ c = 2 := by
    intro e
    have : (c == 0 || inR c 0 2) = true := by rcases e with rfl | rfl | rfl <;> exact h3
    rw [Bool.or_eq_true, beq_iff_eq] at this
    rcases this with e | e
    · omega
    · have := inR_iff.1 e; omega
  rcases (by omega : k = 9 ∨ k = 10 ∨ k = 11 ∨ k = 12 ∨ k = 13 ∨ k = 14 ∨ k = 15 ∨ k = 16) with rfl | rfl | rfl | rfl | rfl | rfl | rfl | rfl
  · obtain ⟨x, y, z, rfl⟩ := list3 hl
    rw [w_impl_Node_point_9 a c _ u v w K]; exact Eq.mp (by kernel_rfl) h
  · obtain ⟨x, rfl⟩ := list1 hl
    rw [w_impl_Node_point_10 a c _ u v w K]; exact Eq.mp (by kernel_rfl) h
  · obtain ⟨x, y, z, rfl⟩ := list3 hl
    rw [w_impl_Node_point_11 a c _ u v w K]; exact Eq.mp (by kernel_rfl) h
  · obtain ⟨x, rfl⟩ := list1 hl
    have h4 : (sineOk x && sineOk (fsub .f32 1048576000 x)) = true := h4
    simp only [Bool.and_eq_true] at h4
    rcases ax (by omega) with rfl | rfl | rfl
    · rw [w_impl_Node_point_12_0 a _ u v w K]; exact cond_yes h4.2 (cond_yes h4.1 (Eq.mp (by kernel_rfl) h))
    · rw [w_impl_Node_point_12_1 a _ u v w K]; exact cond_yes h4.2 (cond_yes h4.1 (Eq.mp (by kernel_rfl) h))
    · rw [w_impl_Node_point_12_2 a _ u v w K]; exact cond_yes h4.2 (cond_yes h4.1 (Eq.mp (by kernel_rfl) h))
  · rcases ax (by omega) with rfl | rfl | rfl
    · rw [w_impl_Node_point_13_0 a _ u v w K]; exact Eq.mp (by kernel_rfl) h
    · rw [w_impl_Node_point_13_1 a _ u v w K]; exact Eq.mp (by kernel_rfl) h
    · rw [w_impl_Node_point_13_2 a _ u v w K]; exact Eq.mp (by kernel_rfl) h
  · obtain ⟨x, rfl⟩ := list1 hl
    rcases ax (by omega) with rfl | rfl | rfl
    · rw [w_impl_Node_point_14_0 a _ u v w K]; exact Eq.mp (by kernel_rfl) h
    · rw [w_impl_Node_point_14_1 a _ u v w K]; exact Eq.mp (by kernel_rfl) h
    · rw [w_impl_Node_point_14_2 a _ u v w K]; exact Eq.mp (by kernel_rfl) h
  · rw [w_impl_Node_point_15 a c _ u v w K]; exact Eq.mp (by kernel_rfl) h
  · rw [w_impl_Node_point_16 a c _ u v w K]; exact Eq.mp (by kernel_rfl) h

end Go.Proofs.Ytfhpmcdbfebflaa

/- Distances of shapes: the recursion. -/
set_option linter.unusedVariables false
set_option linter.unusedSimpArgs false
set_option maxRecDepth 100000
namespace Go.Proofs.Ytfhpmcdbfebflaa
open Go.Ev Go.Ev.Fl

def nodeAt (ns : ShapeD) (i : Int) : NodeD := (ns[i.toNat]?).getD (0, 0, 0, [])
/-- The distance of a node, where its children are below it. -/
--B distV Nat → List (Int × Int × Int × List Nat) → Int → Nat × Nat × Nat → Nat
def distV : Nat → ShapeD → Int → V3 → Nat
  | 0, _, _, _ => 0
  | N + 1, ns, i, p =>
    bif inR (nodeAt ns i).1 0 4 then leafV (nodeAt ns i).1 (nodeAt ns i).2.2.2 p else
    bif inR (nodeAt ns i).1 5 8 then mixV (nodeAt ns i).1 (nodeAt ns i).2.2.2 (distV N ns (nodeAt ns i).2.1 p) (distV N ns (nodeAt ns i).2.2.1 p) else
    mixV (nodeAt ns i).1 (nodeAt ns i).2.2.2 (distV N ns (nodeAt ns i).2.1 (pointN (nodeAt ns i).1 (nodeAt ns i).2.2.1 (nodeAt ns i).2.2.2 p)) 0
--B goodS List (Int × Int × Int × List Nat) → Bool
def goodS (ns : ShapeD) : Bool := nodesB ns && ns.all (fun n => turnB n.1 n.2.2.2)

theorem good_at {ns : ShapeD} (h : goodS ns = true) {i : Int} (h0 : 0 ≤ i) (h1 : i < ns.length) : ns[i.toNat]? = some (nodeAt ns i) ∧ nodeB i (nodeAt ns i) = true ∧ turnB (nodeAt ns i).1 (nodeAt ns i).2.2.2 = true := by
  unfold goodS at h
  simp only [Bool.and_eq_true] at h
  obtain ⟨g1, g2⟩ := h
  have hl : i.toNat < ns.length := by omega
  have e : ns[i.toNat]? = some (ns[i.toNat]'hl) := get_lt hl
  have en : nodeAt ns i = ns[i.toNat]'hl := by unfold nodeAt; rw [e]; rfl
  refine ⟨by rw [e, en], ?_, by rw [en]; exact List.all_eq_true.1 g2 _ (List.getElem_mem hl)⟩
  have := List.all_eq_true.1 g1 i.toNat (by simpa using hl)
  rw [e] at this
  simp only at this
  rw [en]
  rwa [Int.toNat_of_nonneg h0] at this
theorem nodeB_parts {i k a c : Int} {xs : List Nat} (h : nodeB i (k, a, c, xs) = true) : numsB k xs = true ∧ axB k a c = true ∧ ∀ d ∈ kids k a c, 0 ≤ d ∧ d < i := by
  have hk := nodeB_kids h
  unfold nodeB at h
  simp only [Bool.and_eq_true] at h
  exact ⟨h.1, h.2.1, fun d hd => by have := hk d hd; omega⟩

/-! (*impl.Shape).distance -/
noncomputable def sr_impl_Shape_distance (N : Nat) : Sm := semG [.ref tS, .cell tI, .agg tV] (fun x => match x with | (ns, i, p, _) => decide (i.toNat < N) && (goodS ns && (decide (0 ≤ i) && decide (i < ns.length)))) fun x => match x with | (ns, i, p, _) => .float .f32 (distV N ns i p)
noncomputable def c_impl_Shape_distance (N : Nat) : Ctx := mkC Try.prog tyT [(86, sr_impl_Shape_distance N), (83, s_impl_childrenOf), (139, s_impl_Node_leaf), (140, s_impl_Node_mix), (85, s_impl_Node_point)] [] [] 53 (fun _ => none) 0
theorem w_impl_Shape_distance (N : Nat) (ns : ShapeD) (i : Int) (p : V3) (K : V → Heap → Prop) : wpFn (c_impl_Shape_distance N) Try.f86 (encAs [.ref tS, .cell tI, .agg tV] (ns, i, p, ())) [] K =
  cond (decide (0 ≤ i))
    ((match ns[Int.toNat i]? with
      | some y0 => cond ((↑(List.length (kids (Prod.fst y0) (Prod.fst (Prod.snd y0)) (Prod.fst (Prod.snd (Prod.snd y0))))) : Int) == 0)
        (cond (numsB (Prod.fst y0) (Prod.snd (Prod.snd (Prod.snd y0))) && inR (Prod.fst y0) 0 4)
          (K (.float .f32 (leafV (Prod.fst y0) (Prod.snd (Prod.snd (Prod.snd y0))) p)) [])
          (False))
        (cond ((↑(List.length (kids (Prod.fst y0) (Prod.fst (Prod.snd y0)) (Prod.fst (Prod.snd (Prod.snd y0))))) : Int) == 1)
          (cond (numsB (Prod.fst y0) (Prod.snd (Prod.snd (Prod.snd y0))) && (inR (Prod.fst y0) 9 16 && (axB (Prod.fst y0) (Prod.fst (Prod.snd y0)) (Prod.fst (Prod.snd (Prod.snd y0))) && turnB (Prod.fst y0) (Prod.snd (Prod.snd (Prod.snd y0))))))
            (cond (decide (Int.toNat (Prod.fst (Prod.snd y0)) < N) && (goodS ns && (decide (0 ≤ Prod.fst (Prod.snd y0)) && decide (Prod.fst (Prod.snd y0) < (↑(List.length ns) : Int)))))
              (cond (numsB (Prod.fst y0) (Prod.snd (Prod.snd (Prod.snd y0))) && inR (Prod.fst y0) 5 16)
                (K (.float .f32 (mixV (Prod.fst y0) (Prod.snd (Prod.snd (Prod.snd y0))) (distV N ns (Prod.fst (Prod.snd y0)) (pointN (Prod.fst y0) (Prod.fst (Prod.snd (Prod.snd y0))) (Prod.snd (Prod.snd (Prod.snd y0))) p)) 0)) [])
                (False))
              (False))
            (False))
          (cond (decide (Int.toNat (Prod.fst (Prod.snd y0)) < N) && (goodS ns && (decide (0 ≤ Prod.fst (Prod.snd y0)) && decide (Prod.fst (Prod.snd y0) < (↑(List.length ns) : Int)))))
            (cond (decide (Int.toNat (Prod.fst (Prod.snd (Prod.snd y0))) < N) && (goodS ns && (decide (0 ≤ Prod.fst (Prod.snd (Prod.snd y0))) && decide (Prod.fst (Prod.snd (Prod.snd y0)) < (↑(List.length ns) : Int)))))
              (cond (numsB (Prod.fst y0) (Prod.snd (Prod.snd (Prod.snd y0))) && inR (Prod.fst y0) 5 16)
                (K (.float .f32 (mixV (Prod.fst y0) (Prod.snd (Prod.snd (Prod.snd y0))) (distV N ns (Prod.fst (Prod.snd y0)) p) (distV N ns (Prod.fst (Prod.snd (Prod.snd y0))) p))) [])
                (False))
              (False))
            (False)))
      | none => False))
    (False) := by kernel_rfl
theorem okr_impl_Shape_distance : ∀ N, FnOk Try.prog 86 (sr_impl_Shape_distance N)
| 0 => fnOk_never fun _ => rfl
| N + 1 => fnOk_typedG (fnOk_runC (C := c_impl_Shape_distance N) rfl mixed (.cons (okr_impl_Shape_distance N) (.cons ok_impl_childrenOf (.cons ok_impl_Node_leaf (.cons ok_impl_Node_mix (.cons ok_impl_Node_point .nil))))) .nil .nil Try.func86 (by kernel_rfl)) fun (x : ((ShapeD) × (Int) × (V3) × Unit)) wf hg K h => by
  obtain ⟨ns, i, p, ⟨⟩⟩ := x
  replace hg : (decide (i.toNat < (N + 1)) && (goodS ns && (decide (0 ≤ i) && decide (i < ns.length)))) = true := hg
  replace h : K (.float .f32 (distV (N + 1) ns i p)) [] := h
  rw [w_impl_Shape_distance N ns i p K]
  simp only [Bool.and_eq_true, decide_eq_true_eq] at hg
  obtain ⟨g3, g0, g1, g2⟩ := hg
  obtain ⟨e, hb, ht⟩ := good_at g0 g1 g2
  have hs : distV (N + 1) ns i p = bif inR (nodeAt ns i).1 0 4 then leafV (nodeAt ns i).1 (nodeAt ns i).2.2.2 p else
    bif inR (nodeAt ns i).1 5 8 then mixV (nodeAt ns i).1 (nodeAt ns i).2.2.2 (distV N ns (nodeAt ns i).2.1 p) (distV N ns (nodeAt ns i).2.2.1 p) else
    mixV (nodeAt ns i).1 (nodeAt ns i).2.2.2 (distV N ns (nodeAt ns i).2.1 (pointN (nodeAt ns i).1 (nodeAt ns i).2.2.1 (nodeAt ns i).2.2.2 p)) 0 := rfl
  rw [hs] at h
  generalize nodeAt ns i = n at *
  obtain ⟨k, a, c, xs⟩ := n
  obtain ⟨b1, b2, b3⟩ := nodeB_parts hb
  have hk := nums_isK b1
  simp only [d_t g1, e, cond_true]
  simp only at h ht
  rcases kind_cases a c hk with ⟨q1, q2, q3⟩ | ⟨q1, q2, q3⟩ | ⟨q1, q2, q3⟩ <;> rw [q3] at b3 ⊢ <;> simp only [q1, q2, cond_true, cond_false] at h
  · rw [b1, q1]; exact h
  · have k1 := b3 a (by simp)
    have k9 : inR k 9 16 = true := by
      have := inR_iff.1 (show inR k 0 16 = true from hk)
      have n1 : ¬ (0 ≤ k ∧ k ≤ 4) := fun e => by rw [inR_iff.2 e] at q1; cases q1
      have n2 : ¬ (5 ≤ k ∧ k ≤ 8) := fun e => by rw [inR_iff.2 e] at q2; cases q2
      exact inR_iff.2 (by omega)
    have k5 : inR k 5 16 = true := inR_iff.2 (by have := inR_iff.1 k9; omega)
    rw [b1, b2, ht, k9, k5, g0, d_t k1.1, d_t (show a < (ns.length : Int) by omega), d_t (show a.toNat < N by omega)]
    exact h
  · have k1 := b3 a (by simp)
    have k2 := b3 c (by simp)
    have k5 : inR k 5 16 = true := inR_iff.2 (by have := inR_iff.1 q2; omega)
    rw [b1, k5, g0, d_t k1.1, d_t (show a < (ns.length : Int) by omega), d_t (show a.toNat < N by omega), d_t k2.1, d_t (show c < (ns.length : Int) by omega), d_t (show c.toNat < N by omega)]
    exact h
noncomputable abbrev s_impl_Shape_distance : Sm := sr_impl_Shape_distance 17
theorem ok_impl_Shape_distance : FnOk Try.prog 86 s_impl_Shape_distance := okr_impl_Shape_distance 17

end Go.Proofs.Ytfhpmcdbfebflaa

/- Distances of shapes: the functions that ask for them. -/
set_option linter.unusedVariables false
set_option linter.unusedSimpArgs false
set_option maxRecDepth 100000
namespace Go.Proofs.Ytfhpmcdbfebflaa
open Go.Ev Go.Ev.Fl

theorem valid_leng {s : ShapeD} (h : validS s = true) : 1 ≤ s.length ∧ s.length ≤ 16 := by
  unfold validS at h
  simp only [Bool.and_eq_true] at h
  have := inR_iff.1 h.1
  omega
theorem valid_nodes {s : ShapeD} (h : validS s = true) : nodesB s = true := by
  unfold validS at h
  simp only [Bool.and_eq_true] at h
  exact h.2.1
def turnsB (ns : ShapeD) : Bool := ns.all (fun n => turnB n.1 n.2.2.2)
/-- A shape that the walks take. -/
--B okS List (Int × Int × Int × List Nat) → Bool
def okS (ns : ShapeD) : Bool := validS ns && turnsB ns
theorem okS_good {s : ShapeD} (h : okS s = true) : goodS s = true ∧ validS s = true ∧ 1 ≤ s.length ∧ s.length ≤ 16 := by
  unfold okS at h
  simp only [Bool.and_eq_true] at h
  refine ⟨?_, h.1, valid_leng h.1⟩
  unfold goodS
  rw [valid_nodes h.1]
  exact h.2
--B disV List (Int × Int × Int × List Nat) → Nat × Nat × Nat → Nat
def disV (ns : ShapeD) (p : V3) : Nat := distV 17 ns (ns.length - 1) p

/-! (*impl.Shape).last -/
noncomputable def c_impl_Shape_last : Ctx := mkC Try.prog tyT [] [] [] 9 (fun _ => none) 0
theorem w_impl_Shape_last (s : ShapeD) (K : V → Heap → Prop) : wpFn c_impl_Shape_last Try.f84 (encAs [.ref tS] (s, ())) [] K =
  K (.int .i64 (IntKind.wrap IntKind.i64 ((↑(List.length s) : Int) - 1))) [] := by kernel_rfl
noncomputable def s_impl_Shape_last : Sm := semT [.ref tS] fun x => match x with | (s, _) => .int .i64 (IntKind.i64.wrap ((s.length : Int) - 1))
theorem ok_impl_Shape_last : FnOk Try.prog 84 s_impl_Shape_last := fnOk_typed (fnOk_runC (C := c_impl_Shape_last) rfl mixed .nil .nil .nil Try.func84 (by kernel_rfl)) fun (x : ((ShapeD) × Unit)) wf K h => by
  obtain ⟨s, ⟨⟩⟩ := x
  replace h : K (.int .i64 (IntKind.i64.wrap ((s.length : Int) - 1))) [] := h
  rw [w_impl_Shape_last s K]
  exact h

/-! (*impl.Shape).at -/
noncomputable def c_impl_Shape_at : Ctx := mkC Try.prog tyT [(84, s_impl_Shape_last), (86, s_impl_Shape_distance)] [] [] 10 (fun _ => none) 0
theorem w_impl_Shape_at (ns : ShapeD) (p : V3) (K : V → Heap → Prop) : wpFn c_impl_Shape_at Try.f73 (encAs [.ref tS, .agg tV] (ns, p, ())) [] K =
  cond (decide (Int.toNat (IntKind.wrap IntKind.i64 ((↑(List.length ns) : Int) - 1)) < 17) && (goodS ns && (decide (0 ≤ IntKind.wrap IntKind.i64 ((↑(List.length ns) : Int) - 1)) && decide (IntKind.wrap IntKind.i64 ((↑(List.length ns) : Int) - 1) < (↑(List.length ns) : Int)))))
    (K (.float .f32 (distV 17 ns (IntKind.wrap IntKind.i64 ((↑(List.length ns) : Int) - 1)) p)) [])
    (False) := by kernel_rfl
noncomputable def s_impl_Shape_at : Sm := semG [.ref tS, .agg tV] (fun x => match x with | (ns, p, _) => okS ns) fun x => match x with | (ns, p, _) => .float .f32 (disV ns p)
theorem ok_impl_Shape_at : FnOk Try.prog 73 s_impl_Shape_at := fnOk_typedG (fnOk_runC (C := c_impl_Shape_at) rfl mixed (.cons ok_impl_Shape_last (.cons ok_impl_Shape_distance .nil)) .nil .nil Try.func73 (by kernel_rfl)) fun (x : ((ShapeD) × (V3) × Unit)) wf hg K h => by
  obtain ⟨ns, p, ⟨⟩⟩ := x
  replace hg : (okS ns) = true := hg
  replace h : K (.float .f32 (disV ns p)) [] := h
  rw [w_impl_Shape_at ns p K]
  obtain ⟨g1, g2, g3, g4⟩ := okS_good hg
  have e : IntKind.i64.wrap ((ns.length : Int) - 1) = (ns.length : Int) - 1 := i64_of (by omega) (by omega)
  rw [e, g1, d_t (show ((ns.length : Int) - 1).toNat < 17 by omega), d_t (show 0 ≤ (ns.length : Int) - 1 by omega), d_t (show (ns.length : Int) - 1 < ns.length by omega)]
  exact h

/-! impl.DistanceAt -/
/-! impl.IsInside -/
/-! impl.DistancesAt -/
/-! the leaf that decides -/
def secV (k : Int) (x y : Nat) : Bool := bif k == 6 then fgt .f32 y x else bif k == 7 then fgt .f32 (fneg .f32 y) x else flt .f32 y x
def leafAt : Nat → ShapeD → Int → V3 → Int
  | 0, _, i, _ => i
  | N + 1, ns, i, p =>
    bif inR (nodeAt ns i).1 0 4 then i else
    bif inR (nodeAt ns i).1 5 8 then leafAt N ns (bif secV (nodeAt ns i).1 (distV 17 ns (nodeAt ns i).2.1 p) (distV 17 ns (nodeAt ns i).2.2.1 p) then (nodeAt ns i).2.2.1 else (nodeAt ns i).2.1) p else
    leafAt N ns (nodeAt ns i).2.1 (pointN (nodeAt ns i).1 (nodeAt ns i).2.2.1 (nodeAt ns i).2.2.2 p)
--B leaV List (Int × Int × Int × List Nat) → Nat × Nat × Nat → Int
def leaV (ns : ShapeD) (p : V3) : Int := leafAt 16 ns (ns.length - 1) p

/-! impl.LeafAt -/
end Go.Proofs.Ytfhpmcdbfebflaa

/- Rays, factors and marches: walks. -/
set_option linter.unusedVariables false
set_option linter.unusedSimpArgs false
set_option maxRecDepth 100000
namespace Go.Proofs.Ytfhpmcdbfebflaa
open Go.Ev Go.Ev.Fl

abbrev tRay : Ty := .pair tV tV
abbrev tM : Ty := .pair tF (.pair tF tI)
abbrev tH : Ty := .pair tI (.pair tI (.pair tF tV))
abbrev RayD := V3 × V3
abbrev HitD := Int × Int × Nat × V3
def vFin (v : V3) : Bool := finN v.1 && (finN v.2.1 && finN v.2.2)
--B unitV Nat × Nat × Nat → Nat × Nat × Nat
def unitV (v : V3) : V3 := bif feq .f32 (longV v) 0 || !(finN (longV v) && finN (fdiv .f32 1065353216 (longV v))) then (0, 0, 0) else scaleV v (fdiv .f32 1065353216 (longV v))
--B wayV Nat × Nat × Nat → Bool
def wayV (v : V3) : Bool := !nan .f32 v.1 && (!nan .f32 v.2.1 && (!nan .f32 v.2.2 && (!feq .f32 v.1 0 || (!feq .f32 v.2.1 0 || !feq .f32 v.2.2 0))))
--B rayB (Nat × Nat × Nat) × (Nat × Nat × Nat) → Bool
def rayB (r : RayD) : Bool := vFin r.1 && wayV (unitV r.2)
--B onV (Nat × Nat × Nat) × (Nat × Nat × Nat) → Nat → Nat × Nat × Nat
def onV (r : RayD) (far : Nat) : V3 := addV r.1 (scaleV (unitV r.2) far)
--B marB Nat × Nat × Int → Bool
def marB (m : Nat × Nat × Int) : Bool := (finN m.1 && fgt .f32 m.1 0) && (finN m.2.1 && (fge .f32 m.2.1 0 && inR m.2.2 1 64))

/-! impl.finiteVector -/
noncomputable def c_impl_finiteVector : Ctx := mkC Try.prog tyT [(131, s_impl_finite)] [] [] 11 (fun _ => none) 0
theorem w_impl_finiteVector (u : V3) (K : V → Heap → Prop) : wpFn c_impl_finiteVector Try.f74 (encAs [.agg tV] (u, ())) [] K =
  K (.bool (!List.any [Prod.fst u, Prod.fst (Prod.snd u), Prod.snd (Prod.snd u)] fun x => !finN x)) [] := by kernel_rfl
noncomputable def s_impl_finiteVector : Sm := semT [.agg tV] fun x => match x with | (u, _) => .bool (vFin u)
theorem ok_impl_finiteVector : FnOk Try.prog 74 s_impl_finiteVector := fnOk_typed (fnOk_runC (C := c_impl_finiteVector) rfl mixed (.cons ok_impl_finite .nil) .nil .nil Try.func74 (by kernel_rfl)) fun (x : ((V3) × Unit)) wf K h => by
  obtain ⟨u, ⟨⟩⟩ := x
  replace h : K (.bool (vFin u)) [] := h
  rw [w_impl_finiteVector u K]
  have : (!List.any [u.1, u.2.1, u.2.2] fun x => !finN x) = vFin u := by
    unfold vFin
    simp only [List.any_cons, List.any_nil, Bool.not_or, Bool.not_not, Bool.not_false, Bool.and_true]
  rw [this]
  exact h

/-! impl.UnitOf -/
noncomputable def c_impl_UnitOf : Ctx := mkC Try.prog tyT [(61, s_impl_LongOf), (131, s_impl_finite), (110, s_impl_ScaleVector)] [] [] 22 (fun _ => none) 0
theorem w_impl_UnitOf (v : V3) (K : V → Heap → Prop) : wpFn c_impl_UnitOf Try.f76 (encAs [.agg tV] (v, ())) [] K =
  cond (feq FloatKind.f32 (longV v) 0)
    (K (.agg [(.float .f32 0), (.float .f32 0), (.float .f32 0)]) [])
    (cond (!!List.any [longV v, fdiv FloatKind.f32 (1065353216 : Nat) (longV v)] fun x => !finN x)
      (K (.agg [(.float .f32 0), (.float .f32 0), (.float .f32 0)]) [])
      (K (.agg [(.float .f32 (Prod.fst (scaleV v (fdiv FloatKind.f32 1065353216 (longV v))))), (.float .f32 (Prod.fst (Prod.snd (scaleV v (fdiv FloatKind.f32 1065353216 (longV v)))))), (.float .f32 (Prod.snd (Prod.snd (scaleV v (fdiv FloatKind.f32 1065353216 (longV v))))))]) [])) := by kernel_rfl
noncomputable def s_impl_UnitOf : Sm := semT [.agg tV] fun x => match x with | (v, _) => .agg (enc tV (unitV v))
theorem ok_impl_UnitOf : FnOk Try.prog 76 s_impl_UnitOf := fnOk_typed (fnOk_runC (C := c_impl_UnitOf) rfl mixed (.cons ok_impl_LongOf (.cons ok_impl_finite (.cons ok_impl_ScaleVector .nil))) .nil .nil Try.func76 (by kernel_rfl)) fun (x : ((V3) × Unit)) wf K h => by
  obtain ⟨v, ⟨⟩⟩ := x
  replace h : K (.agg (enc tV (unitV v))) [] := h
  rw [w_impl_UnitOf v K]
  have e : ∀ a b : Nat, (!List.any [a, b] fun x => !finN x) = (finN a && finN b) := fun a b => by
    simp only [List.any_cons, List.any_nil, Bool.not_or, Bool.not_not, Bool.not_false, Bool.and_true]
  simp only [e]
  unfold unitV at h
  revert h
  generalize longV v = l
  generalize fdiv .f32 1065353216 l = d
  cases feq .f32 l 0 <;> cases (finN l && finN d) <;> exact id

/-! impl.hasWay -/
noncomputable def c_impl_hasWay : Ctx := mkC Try.prog tyT [(101, s_impl_isNaN)] [] [] 34 (fun _ => none) 0
theorem w_impl_hasWay (v : V3) (K : V → Heap → Prop) : wpFn c_impl_hasWay Try.f75 (encAs [.agg tV] (v, ())) [] K =
  cond (!nan FloatKind.f32 (Prod.fst v))
    (cond (!nan FloatKind.f32 (Prod.fst (Prod.snd v)))
      (cond (!nan FloatKind.f32 (Prod.snd (Prod.snd v)))
        (cond (!feq FloatKind.f32 (Prod.fst v) 0)
          (K (.bool true) [])
          (cond (!feq FloatKind.f32 (Prod.fst (Prod.snd v)) 0)
            (K (.bool true) [])
            (K (.bool (!feq FloatKind.f32 (Prod.snd (Prod.snd v)) 0)) [])))
        (K (.bool false) []))
      (K (.bool false) []))
    (K (.bool false) []) := by kernel_rfl
noncomputable def s_impl_hasWay : Sm := semT [.agg tV] fun x => match x with | (v, _) => .bool (wayV v)
theorem ok_impl_hasWay : FnOk Try.prog 75 s_impl_hasWay := fnOk_typed (fnOk_runC (C := c_impl_hasWay) rfl mixed (.cons ok_impl_isNaN .nil) .nil .nil Try.func75 (by kernel_rfl)) fun (x : ((V3) × Unit)) wf K h => by
  obtain ⟨v, ⟨⟩⟩ := x
  replace h : K (.bool (wayV v)) [] := h
  rw [w_impl_hasWay v K]
  revert h
  unfold wayV
  cases nan .f32 v.1 <;> cases nan .f32 v.2.1 <;> cases nan .f32 v.2.2 <;> cases feq .f32 v.1 0 <;> cases feq .f32 v.2.1 0 <;> cases feq .f32 v.2.2 0 <;> exact id

/-! impl.ValidRay -/
noncomputable def c_impl_ValidRay : Ctx := mkC Try.prog tyT [(74, s_impl_finiteVector), (76, s_impl_UnitOf), (75, s_impl_hasWay)] [] [] 12 (fun _ => none) 0
theorem w_impl_ValidRay (r : RayD) (K : V → Heap → Prop) : wpFn c_impl_ValidRay Try.f20 (encAs [.agg tRay] (r, ())) [] K =
  cond (vFin (Prod.fst r))
    (K (.bool (wayV (unitV (Prod.snd r)))) [])
    (K (.bool false) []) := by kernel_rfl
noncomputable def s_impl_ValidRay : Sm := semT [.agg tRay] fun x => match x with | (r, _) => .bool (rayB r)
theorem ok_impl_ValidRay : FnOk Try.prog 20 s_impl_ValidRay := fnOk_typed (fnOk_runC (C := c_impl_ValidRay) rfl mixed (.cons ok_impl_finiteVector (.cons ok_impl_UnitOf (.cons ok_impl_hasWay .nil))) .nil .nil Try.func20 (by kernel_rfl)) fun (x : ((RayD) × Unit)) wf K h => by
  obtain ⟨r, ⟨⟩⟩ := x
  replace h : K (.bool (rayB r)) [] := h
  rw [w_impl_ValidRay r K]
  revert h
  unfold rayB
  cases vFin r.1 <;> cases wayV (unitV r.2) <;> exact id

/-! (*impl.Ray).on -/
noncomputable def c_impl_Ray_on : Ctx := mkC Try.prog tyT [(76, s_impl_UnitOf), (110, s_impl_ScaleVector), (109, s_impl_AddVectors)] [] [] 17 (fun _ => none) 0
theorem w_impl_Ray_on (r : RayD) (d : Nat) (K : V → Heap → Prop) : wpFn c_impl_Ray_on Try.f72 (encAs [.ref tRay, .cell tF] (r, d, ())) [] K =
  K (.agg [(.float .f32 (Prod.fst (addV (Prod.fst r) (scaleV (unitV (Prod.snd r)) d)))), (.float .f32 (Prod.fst (Prod.snd (addV (Prod.fst r) (scaleV (unitV (Prod.snd r)) d))))), (.float .f32 (Prod.snd (Prod.snd (addV (Prod.fst r) (scaleV (unitV (Prod.snd r)) d)))))]) [] := by kernel_rfl
noncomputable def s_impl_Ray_on : Sm := semT [.ref tRay, .cell tF] fun x => match x with | (r, d, _) => .agg (enc tV (onV r d))
theorem ok_impl_Ray_on : FnOk Try.prog 72 s_impl_Ray_on := fnOk_typed (fnOk_runC (C := c_impl_Ray_on) rfl mixed (.cons ok_impl_UnitOf (.cons ok_impl_ScaleVector (.cons ok_impl_AddVectors .nil))) .nil .nil Try.func72 (by kernel_rfl)) fun (x : ((RayD) × (Nat) × Unit)) wf K h => by
  obtain ⟨r, d, ⟨⟩⟩ := x
  replace h : K (.agg (enc tV (onV r d))) [] := h
  rw [w_impl_Ray_on r d K]
  exact h

/-! impl.PlaceOn -/
/-! impl.stepOk -/
noncomputable def c_impl_stepOk : Ctx := mkC Try.prog tyT [(78, s_impl_IsFinite)] [] [] 9 (fun _ => none) 0
theorem w_impl_stepOk (d : Nat) (K : V → Heap → Prop) : wpFn c_impl_stepOk Try.f77 (encAs [.cell tF] (d, ())) [] K =
  cond (finN d)
    (K (.bool (fgt FloatKind.f32 d 0)) [])
    (K (.bool false) []) := by kernel_rfl
noncomputable def s_impl_stepOk : Sm := semT [.cell tF] fun x => match x with | (d, _) => .bool (finN d && fgt .f32 d 0)
theorem ok_impl_stepOk : FnOk Try.prog 77 s_impl_stepOk := fnOk_typed (fnOk_runC (C := c_impl_stepOk) rfl mixed (.cons ok_impl_IsFinite .nil) .nil .nil Try.func77 (by kernel_rfl)) fun (x : ((Nat) × Unit)) wf K h => by
  obtain ⟨d, ⟨⟩⟩ := x
  replace h : K (.bool (finN d && fgt .f32 d 0)) [] := h
  rw [w_impl_stepOk d K]
  revert h
  cases finN d <;> exact id

/-! impl.ValidMarch -/
noncomputable def c_impl_ValidMarch : Ctx := mkC Try.prog tyT [(77, s_impl_stepOk), (78, s_impl_IsFinite), (79, s_impl_in)] [] [] 21 (fun _ => none) 0
theorem w_impl_ValidMarch (a c : Nat) (n : Int) (K : V → Heap → Prop) : wpFn c_impl_ValidMarch Try.f21 (encAs [.agg tM] ((a, c, n), ())) [] K =
  cond (finN a && fgt FloatKind.f32 a 0)
    (cond (finN c)
      (cond (fge FloatKind.f32 c 0)
        (K (.bool (inR n 1 64)) [])
        (K (.bool false) []))
      (K (.bool false) []))
    (K (.bool false) []) := by kernel_rfl
noncomputable def s_impl_ValidMarch : Sm := semT [.agg tM] fun x => match x with | ((a, c, n), _) => .bool (marB (a, c, n))
theorem ok_impl_ValidMarch : FnOk Try.prog 21 s_impl_ValidMarch := fnOk_typed (fnOk_runC (C := c_impl_ValidMarch) rfl mixed (.cons ok_impl_stepOk (.cons ok_impl_IsFinite (.cons ok_impl_in .nil))) .nil .nil Try.func21 (by kernel_rfl)) fun (x : (((Nat) × (Nat) × (Int)) × Unit)) wf K h => by
  obtain ⟨⟨a, c, n⟩, ⟨⟩⟩ := x
  replace h : K (.bool (marB (a, c, n))) [] := h
  rw [w_impl_ValidMarch a c n K]
  revert h
  unfold marB
  cases (finN a && fgt .f32 a 0) <;> cases finN c <;> cases fge .f32 c 0 <;> cases inR n 1 64 <;> exact id

/-! factors -/
def nf (fs : List Nat) (i : Int) : Nat := (fs[i.toNat]?).getD 0
def facN (fs : List Nat) (n : NodeD) : Nat :=
  bif n.1 == 4 then longV (nt n.2.2.2 0, nt n.2.2.2 1, nt n.2.2.2 2) else
  bif n.1 == 11 then fmul .f32 (nf fs n.2.1) (grV (grV (fdiv .f32 1065353216 (nt n.2.2.2 0)) (fdiv .f32 1065353216 (nt n.2.2.2 1))) (fdiv .f32 1065353216 (nt n.2.2.2 2))) else
  bif inR n.1 0 4 then 1065353216 else
  bif inR n.1 5 8 then grV (nf fs n.2.1) (nf fs n.2.2.1) else nf fs n.2.1
def facL (ns : ShapeD) : Nat → List Nat
  | 0 => []
  | i + 1 => facL ns i ++ [facN (facL ns i) (nodeAt ns i)]
theorem facL_len (ns : ShapeD) (i : Nat) : (facL ns i).length = i := by
  induction i with
  | zero => rfl
  | succ i ih => simp [facL, ih]
--B facV List (Int × Int × Int × List Nat) → Nat
def facV (ns : ShapeD) : Nat := nf (facL ns ns.length) (ns.length - 1)
--B slopeV List (Int × Int × Int × List Nat) → Nat
def slopeV (ns : ShapeD) : Nat := bif fge .f32 (facV ns) 1065353216 then facV ns else 1065353216
theorem nf_at {fs : List Nat} {i : Int} (h0 : 0 ≤ i) (h : i < fs.length) : fs[i.toNat]? = some (nf fs i) := by
  unfold nf
  rw [get_lt (show i.toNat < fs.length by omega)]
  rfl

/-! (*impl.Shape).factor -/
noncomputable def a_impl_Shape_factor : Nat → Option Ann := fun n => bif Nat.beq n 3 then some ⟨[0,3,13,14],1,false⟩ else none
noncomputable def c_impl_Shape_factor : Ctx := mkC Try.prog tyT [(83, s_impl_childrenOf), (61, s_impl_LongOf), (164, s_impl_greater), (84, s_impl_Shape_last)] [] [] 128 a_impl_Shape_factor 0
noncomputable def fr_impl_Shape_factor_3 (ns : ShapeD) (fs : List Nat) (n i : Int) : Fr := [(0, .ref [.vec tN ns] 0), (3, .obj 0 0), (13, .int .i64 n), (14, .int .i64 i)]
noncomputable def hp_impl_Shape_factor_3 (ns : ShapeD) (fs : List Nat) (n i : Int) : Heap := [.sl 0 tF fs]
theorem r_impl_Shape_factor_3 (ns : ShapeD) (fs : List Nat) (n i : Int) (Kn : Fr → Heap → Prop) (K : V → Heap → Prop) : round c_impl_Shape_factor ⟨[0,3,13,14],1,false⟩ (lb c_impl_Shape_factor 3 Try.f147) (fr_impl_Shape_factor_3 ns fs n i) (hp_impl_Shape_factor_3 ns fs n i) Kn (lk c_impl_Shape_factor 3 Try.f147 [] K) =
  cond (decide (i < n))
    (cond (decide (0 ≤ i))
      ((match ns[Int.toNat i]? with
        | some y0 => cond (Prod.fst y0 == 4)
          ((match (Prod.snd (Prod.snd (Prod.snd y0)))[0]? with
            | some y1 => (match (Prod.snd (Prod.snd (Prod.snd y0)))[1]? with
              | some y2 => (match (Prod.snd (Prod.snd (Prod.snd y0)))[2]? with
                | some y3 => cond (decide ((List.length fs + 1) * 4 ≤ 140737488355328))
                  (Kn [(0, (.ref [(.vec tN (ns))] 0)), (3, (.obj 0 0)), (13, (.int .i64 (n))), (14, (.int .i64 (IntKind.wrap IntKind.i64 (i + 1))))] [(.sl 0 (.float .f32) (fs ++ [longV (y1, y2, y3)]))])
                  (False)
                | none => False)
              | none => False)
            | none => False))
          (cond (Prod.fst y0 == 11)
            (cond (decide (0 ≤ Prod.fst (Prod.snd y0)) && Nat.blt (Int.toNat (Prod.fst (Prod.snd y0))) (List.length fs))
              ((match fs[Int.toNat (Prod.fst (Prod.snd y0))]? with
                | some x4 => (match (Prod.snd (Prod.snd (Prod.snd y0)))[0]? with
                  | some y5 => (match (Prod.snd (Prod.snd (Prod.snd y0)))[1]? with
                    | some y6 => (match (Prod.snd (Prod.snd (Prod.snd y0)))[2]? with
                      | some y7 => cond (decide ((List.length fs + 1) * 4 ≤ 140737488355328))
                        (Kn [(0, (.ref [(.vec tN (ns))] 0)), (3, (.obj 0 0)), (13, (.int .i64 (n))), (14, (.int .i64 (IntKind.wrap IntKind.i64 (i + 1))))] [(.sl 0 (.float .f32) (fs ++ [fmul FloatKind.f32 x4 (grV (grV (fdiv FloatKind.f32 (1065353216 : Nat) y5) (fdiv FloatKind.f32 (1065353216 : Nat) y6)) (fdiv FloatKind.f32 (1065353216 : Nat) y7))]))])
                        (False)
                      | none => False)
                    | none => False)
                  | none => False)
                | none => False))
              (False))
            (cond ((↑(List.length (kids (Prod.fst y0) (Prod.fst (Prod.snd y0)) (Prod.fst (Prod.snd (Prod.snd y0))))) : Int) == 1)
              (cond (decide (0 ≤ Prod.fst (Prod.snd y0)) && Nat.blt (Int.toNat (Prod.fst (Prod.snd y0))) (List.length fs))
                ((match fs[Int.toNat (Prod.fst (Prod.snd y0))]? with
                  | some x8 => cond (decide ((List.length fs + 1) * 4 ≤ 140737488355328))
                    (Kn [(0, (.ref [(.vec tN (ns))] 0)), (3, (.obj 0 0)), (13, (.int .i64 (n))), (14, (.int .i64 (IntKind.wrap IntKind.i64 (i + 1))))] [(.sl 0 (.float .f32) (fs ++ [x8]))])
                    (False)
                  | none => False))
                (False))
              (cond ((↑(List.length (kids (Prod.fst y0) (Prod.fst (Prod.snd y0)) (Prod.fst (Prod.snd (Prod.snd y0))))) : Int) == 2)
                (cond (decide (0 ≤ Prod.fst (Prod.snd y0)) && Nat.blt (Int.toNat (Prod.fst (Prod.snd y0))) (List.length fs))
                  ((match fs[Int.toNat (Prod.fst (Prod.snd y0))]? with
                    | some x9 => cond (decide (0 ≤ Prod.fst (Prod.snd (Prod.snd y0))) && Nat.blt (Int.toNat (Prod.fst (Prod.snd (Prod.snd y0)))) (List.length fs))
                      ((match fs[Int.toNat (Prod.fst (Prod.snd (Prod.snd y0)))]? with
                        | some x10 => cond (decide ((List.length fs + 1) * 4 ≤ 140737488355328))
                          (Kn [(0, (.ref [(.vec tN (ns))] 0)), (3, (.obj 0 0)), (13, (.int .i64 (n))), (14, (.int .i64 (IntKind.wrap IntKind.i64 (i + 1))))] [(.sl 0 (.float .f32) (fs ++ [grV x9 x10]))])
                          (False)
                        | none => False))
                      (False)
                    | none => False))
                  (False))
                (cond (decide ((List.length fs + 1) * 4 ≤ 140737488355328))
                  (Kn [(0, (.ref [(.vec tN (ns))] 0)), (3, (.obj 0 0)), (13, (.int .i64 (n))), (14, (.int .i64 (IntKind.wrap IntKind.i64 (i + 1))))] [(.sl 0 (.float .f32) (fs ++ [(1065353216 : Nat)]))])
                  (False)))))
        | none => False))
      (False))
    (cond (decide (0 ≤ IntKind.wrap IntKind.i64 ((↑(List.length ns) : Int) - 1)) && Nat.blt (Int.toNat (IntKind.wrap IntKind.i64 ((↑(List.length ns) : Int) - 1))) (List.length fs))
      ((match fs[Int.toNat (IntKind.wrap IntKind.i64 ((↑(List.length ns) : Int) - 1))]? with
        | some x11 => K (.float .f32 (x11)) []
        | none => False))
      (False)) := by kernel_rfl
theorem w_impl_Shape_factor (ns : ShapeD) (K : V → Heap → Prop) : wpFn c_impl_Shape_factor Try.f147 (encAs [.ref tS] (ns, ())) [] K =
  LoopE c_impl_Shape_factor ⟨[0, 3, 13, 14], 1, false⟩ (lb c_impl_Shape_factor 3 Try.f147) [(0, (.ref [(.vec tN (ns))] 0)), (3, (.obj 0 0)), (13, (.int .i64 ((↑(List.length ns) : Int)))), (14, (.int .i64 0))] [(.sl 0 (.float .f32) ([]))] (lk c_impl_Shape_factor 3 Try.f147 [] K) := by kernel_rfl
noncomputable def s_impl_Shape_factor : Sm := semG [.ref tS] (fun x => match x with | (ns, _) => goodS ns && (decide (1 ≤ ns.length) && decide (ns.length ≤ 16))) fun x => match x with | (ns, _) => .float .f32 (facV ns)
theorem ok_impl_Shape_factor : FnOk Try.prog 147 s_impl_Shape_factor := fnOk_typedG (fnOk_runC (C := c_impl_Shape_factor) rfl mixed (.cons ok_impl_childrenOf (.cons ok_impl_LongOf (.cons ok_impl_greater (.cons ok_impl_Shape_last .nil)))) .nil .nil Try.func147 (by kernel_rfl)) fun (x : ((ShapeD) × Unit)) wf hg K h => by
  obtain ⟨ns, ⟨⟩⟩ := x
  replace hg : (goodS ns && (decide (1 ≤ ns.length) && decide (ns.length ≤ 16))) = true := hg
  replace h : K (.float .f32 (facV ns)) [] := h
  rw [w_impl_Shape_factor ns K]
  simp only [Bool.and_eq_true, decide_eq_true_eq] at hg
  obtain ⟨g0, g1, g2⟩ := hg
  refine loop_run (σ := Nat) (fun i => fr_impl_Shape_factor_3 ns [] ns.length i) (fun i => hp_impl_Shape_factor_3 ns (facL ns i) ns.length i) (fun i => i ≤ ns.length) (fun i => ns.length - i) ?_ 0 (Nat.zero_le _)
  intro i hi Kn hk
  rw [show fr_impl_Shape_factor_3 ns [] ns.length i = fr_impl_Shape_factor_3 ns (facL ns i) ns.length i from rfl, r_impl_Shape_factor_3 ns (facL ns i) ns.length i Kn K]
  have hl := facL_len ns i
  by_cases hlt : i < ns.length
  · have next := hk (i + 1) hlt (by omega)
    have hs : facL ns (i + 1) = facL ns i ++ [facN (facL ns i) (nodeAt ns i)] := rfl
    rw [hs] at next
    obtain ⟨e, hb, ht⟩ := good_at g0 (i := (i : Int)) (by omega) (by omega)
    generalize nodeAt ns (i : Int) = nd at *
    obtain ⟨k, a, c, xs⟩ := nd
    obtain ⟨b1, b2, b3⟩ := nodeB_parts hb
    have hk0 := nums_isK b1
    have hn := nums_len b1
    generalize facL ns i = fs at *
    have hcap : decide ((fs.length + 1) * 4 ≤ 140737488355328) = true := decide_eq_true (by omega)
    simp only [d_lt hlt, d_0, e, cond_true, hcap]
    rw [i64_of (n := (i : Int) + 1) (by omega) (by omega)]
    unfold facN at next
    simp only at next
    by_cases k4 : k = 4
    · subst k4
      obtain ⟨x, y, z, w, rfl⟩ := list4 hn
      exact next
    · have f4 : (k == 4) = false := beq_eq_false_iff_ne.2 k4
      simp only [f4, cond_false] at next ⊢
      by_cases k11 : k = 11
      · subst k11
        obtain ⟨x, y, z, rfl⟩ := list3 hn
        have k1 := b3 a (by show a ∈ [a]; simp)
        simp only [d_t k1.1, blt_t (show a.toNat < fs.length by omega), Bool.and_self, cond_true, nf_at k1.1 (show a < (fs.length : Int) by omega)]
        exact next
      · have f11 : (k == 11) = false := beq_eq_false_iff_ne.2 k11
        simp only [f11, cond_false] at next ⊢
        rcases kind_cases a c hk0 with ⟨q1, q2, q3⟩ | ⟨q1, q2, q3⟩ | ⟨q1, q2, q3⟩ <;> rw [q3] at b3 ⊢ <;> simp only [q1, q2, cond_true, cond_false] at next
        · exact next
        · have k1 := b3 a (by simp)
          simp only [d_t k1.1, blt_t (show a.toNat < fs.length by omega), Bool.and_self, cond_true, nf_at k1.1 (show a < (fs.length : Int) by omega)]
          exact next
        · have k1 := b3 a (by simp)
          have k2 := b3 c (by simp)
          simp only [d_t k1.1, blt_t (show a.toNat < fs.length by omega), d_t k2.1, blt_t (show c.toNat < fs.length by omega), Bool.and_self, cond_true, nf_at k1.1 (show a < (fs.length : Int) by omega), nf_at k2.1 (show c < (fs.length : Int) by omega)]
          exact next
  · have : i = ns.length := by omega
    subst this
    have e1 : IntKind.i64.wrap ((ns.length : Int) - 1) = (ns.length : Int) - 1 := i64_of (by omega) (by omega)
    rw [e1]
    have q := nf_at (fs := facL ns ns.length) (i := (ns.length : Int) - 1) (by omega) (by omega)
    simp only [d_nlt hlt, cond_false, d_t (show 0 ≤ (ns.length : Int) - 1 by omega), blt_t (show ((ns.length : Int) - 1).toNat < (facL ns ns.length).length by omega), Bool.and_self, cond_true, q]
    exact h

/-! (*impl.Shape).slope -/
noncomputable def c_impl_Shape_slope : Ctx := mkC Try.prog tyT [(147, s_impl_Shape_factor)] [] [] 9 (fun _ => none) 0
theorem w_impl_Shape_slope (ns : ShapeD) (K : V → Heap → Prop) : wpFn c_impl_Shape_slope Try.f103 (encAs [.ref tS] (ns, ())) [] K =
  cond (goodS ns && (decide (1 ≤ List.length ns) && decide (List.length ns ≤ 16)))
    (cond (fge FloatKind.f32 (facV ns) 1065353216)
      (K (.float .f32 (facV ns)) [])
      (K (.float .f32 1065353216) []))
    (False) := by kernel_rfl
noncomputable def s_impl_Shape_slope : Sm := semG [.ref tS] (fun x => match x with | (ns, _) => goodS ns && (decide (1 ≤ ns.length) && decide (ns.length ≤ 16))) fun x => match x with | (ns, _) => .float .f32 (slopeV ns)
theorem ok_impl_Shape_slope : FnOk Try.prog 103 s_impl_Shape_slope := fnOk_typedG (fnOk_runC (C := c_impl_Shape_slope) rfl mixed (.cons ok_impl_Shape_factor .nil) .nil .nil Try.func103 (by kernel_rfl)) fun (x : ((ShapeD) × Unit)) wf hg K h => by
  obtain ⟨ns, ⟨⟩⟩ := x
  replace hg : (goodS ns && (decide (1 ≤ ns.length) && decide (ns.length ≤ 16))) = true := hg
  replace h : K (.float .f32 (slopeV ns)) [] := h
  rw [w_impl_Shape_slope ns K]
  rw [hg]
  unfold slopeV at h
  revert h
  cases fge .f32 (facV ns) 1065353216 <;> exact id

/-! impl.SafeStep -/
noncomputable def c_impl_SafeStep : Ctx := mkC Try.prog tyT [(33, s_impl_ValidShape), (73, s_impl_Shape_at), (103, s_impl_Shape_slope)] [] [] 13 (fun _ => none) 0
theorem w_impl_SafeStep (ns : ShapeD) (p : V3) (K : V → Heap → Prop) : wpFn c_impl_SafeStep Try.f43 (encAs [.agg tS, .agg tV] (ns, p, ())) [] K =
  cond (!validS ns)
    (K (.tuple [(.float .f32 0), (.bool false)]) [])
    (cond (okS ns)
      (cond (goodS ns && (decide (1 ≤ List.length ns) && decide (List.length ns ≤ 16)))
        (K (.tuple [(.float .f32 (fdiv FloatKind.f32 (disV ns p) (slopeV ns))), (.bool true)]) [])
        (False))
      (False)) := by kernel_rfl
noncomputable def s_impl_SafeStep : Sm := semG [.agg tS, .agg tV] (fun x => match x with | (ns, p, _) => okS ns) fun x => match x with | (ns, p, _) => .tuple [.float .f32 (fdiv .f32 (disV ns p) (slopeV ns)), .bool true]
theorem ok_impl_SafeStep : FnOk Try.prog 43 s_impl_SafeStep := fnOk_typedG (fnOk_runC (C := c_impl_SafeStep) rfl mixed (.cons ok_impl_ValidShape (.cons ok_impl_Shape_at (.cons ok_impl_Shape_slope .nil))) .nil .nil Try.func43 (by kernel_rfl)) fun (x : ((ShapeD) × (V3) × Unit)) wf hg K h => by
  obtain ⟨ns, p, ⟨⟩⟩ := x
  replace hg : (okS ns) = true := hg
  replace h : K (.tuple [.float .f32 (fdiv .f32 (disV ns p) (slopeV ns)), .bool true]) [] := h
  rw [w_impl_SafeStep ns p K]
  obtain ⟨g1, g2, g3, g4⟩ := okS_good hg
  rw [g2, hg, g1, d_t g3, d_t g4]
  exact h

/-! marches -/
/-- n rounds from the distance d on, of which the first one is the k-th. -/
def marGo (ns : ShapeD) (r : RayD) (near most : Nat) (S : Int) : Nat → Int → Nat → HitD
  | 0, _, d => (2, S, d, onV r d)
  | n + 1, k, d =>
    bif flt .f32 (disV ns (onV r d)) near then (1, k, d, onV r d) else
    bif !fle .f32 (fadd .f32 d (fdiv .f32 (disV ns (onV r d)) (slopeV ns))) most then (0, k, fadd .f32 d (fdiv .f32 (disV ns (onV r d)) (slopeV ns)), onV r (fadd .f32 d (fdiv .f32 (disV ns (onV r d)) (slopeV ns)))) else
    marGo ns r near most S n (k + 1) (fadd .f32 d (fdiv .f32 (disV ns (onV r d)) (slopeV ns)))
--B marV List (Int × Int × Int × List Nat) → (Nat × Nat × Nat) × (Nat × Nat × Nat) → Nat × Nat × Int → Int × Int × Nat × (Nat × Nat × Nat)
def marV (ns : ShapeD) (r : RayD) (m : Nat × Nat × Int) : HitD := marGo ns r m.1 m.2.1 m.2.2 m.2.2.toNat 1 0

/-! (*impl.Shape).march -/
noncomputable def a_impl_Shape_march : Nat → Option Ann := fun n => bif Nat.beq n 3 then some ⟨[0,4,5,6,7,8,9],3,false⟩ else none
noncomputable def c_impl_Shape_march : Ctx := mkC Try.prog tyT [(103, s_impl_Shape_slope), (72, s_impl_Ray_on), (73, s_impl_Shape_at)] [] [] 53 a_impl_Shape_march 0
noncomputable def fr_impl_Shape_march_3 (ns : ShapeD) (r : RayD) (a c : Nat) (n : Int) (d e : Nat) (k : Int) : Fr := [(0, .ref [.vec tN ns] 0), (4, .ptr 0 0), (5, .ptr 1 0), (6, .ptr 2 0), (7, .float .f32 d), (8, .float .f32 e), (9, .int .i64 k)]
noncomputable def hp_impl_Shape_march_3 (ns : ShapeD) (r : RayD) (a c : Nat) (n : Int) (d e : Nat) (k : Int) : Heap := [.box (enc tRay r), .box [.float .f32 a, .float .f32 c, .int .i64 n], .box [.int .i64 0, .int .i64 0, .float .f32 0, .float .f32 0, .float .f32 0, .float .f32 0]]
theorem r_impl_Shape_march_3 (ns : ShapeD) (r : RayD) (a c : Nat) (n : Int) (d e : Nat) (k : Int) (Kn : Fr → Heap → Prop) (K : V → Heap → Prop) : round c_impl_Shape_march ⟨[0,4,5,6,7,8,9],3,false⟩ (lb c_impl_Shape_march 3 Try.f71) (fr_impl_Shape_march_3 ns r a c n d e k) (hp_impl_Shape_march_3 ns r a c n d e k) Kn (lk c_impl_Shape_march 3 Try.f71 [] K) =
  cond (decide (k ≤ n))
    (cond (okS ns)
      (cond (flt FloatKind.f32 (disV ns (onV r d)) a)
        (K (.agg [(.int .i64 1), (.int .i64 (k)), (.float .f32 (d)), (.float .f32 (Prod.fst (onV r d))), (.float .f32 (Prod.fst (Prod.snd (onV r d)))), (.float .f32 (Prod.snd (Prod.snd (onV r d))))]) [])
        (cond (!fle FloatKind.f32 (fadd FloatKind.f32 d (fdiv FloatKind.f32 (disV ns (onV r d)) e)) c)
          (K (.agg [(.int .i64 0), (.int .i64 (k)), (.float .f32 (fadd FloatKind.f32 d (fdiv FloatKind.f32 (disV ns (onV r d)) e))), (.float .f32 (Prod.fst (onV r (fadd FloatKind.f32 d (fdiv FloatKind.f32 (disV ns (onV r d)) e))))), (.float .f32 (Prod.fst (Prod.snd (onV r (fadd FloatKind.f32 d (fdiv FloatKind.f32 (disV ns (onV r d)) e)))))), (.float .f32 (Prod.snd (Prod.snd (onV r (fadd FloatKind.f32 d (fdiv FloatKind.f32 (disV ns (onV r d)) e))))))]) [])
          (Kn [(0, (.ref [(.vec tN (ns))] 0)), (4, (.ptr 0 0)), (5, (.ptr 1 0)), (6, (.ptr 2 0)), (7, (.float .f32 (fadd FloatKind.f32 d (fdiv FloatKind.f32 (disV ns (onV r d)) e)))), (8, (.float .f32 (e))), (9, (.int .i64 (IntKind.wrap IntKind.i64 (k + 1))))] [(.box [(.float .f32 (Prod.fst (Prod.fst r))), (.float .f32 (Prod.fst (Prod.snd (Prod.fst r)))), (.float .f32 (Prod.snd (Prod.snd (Prod.fst r)))), (.float .f32 (Prod.fst (Prod.snd r))), (.float .f32 (Prod.fst (Prod.snd (Prod.snd r)))), (.float .f32 (Prod.snd (Prod.snd (Prod.snd r))))]), (.box [(.float .f32 (a)), (.float .f32 (c)), (.int .i64 (n))]), (.box [(.int .i64 0), (.int .i64 0), (.float .f32 0), (.float .f32 0), (.float .f32 0), (.float .f32 0)])])))
      (False))
    (K (.agg [(.int .i64 2), (.int .i64 (n)), (.float .f32 (d)), (.float .f32 (Prod.fst (onV r d))), (.float .f32 (Prod.fst (Prod.snd (onV r d)))), (.float .f32 (Prod.snd (Prod.snd (onV r d))))]) []) := by kernel_rfl
theorem w_impl_Shape_march (ns : ShapeD) (r : RayD) (a c : Nat) (n : Int) (K : V → Heap → Prop) : wpFn c_impl_Shape_march Try.f71 (encAs [.ref tS, .agg tRay, .agg tM] (ns, r, (a, c, n), ())) [] K =
  cond (goodS ns && (decide (1 ≤ List.length ns) && decide (List.length ns ≤ 16)))
    (LoopE c_impl_Shape_march ⟨[0, 4, 5, 6, 7, 8, 9], 3, false⟩ (lb c_impl_Shape_march 3 Try.f71) [(0, (.ref [(.vec tN (ns))] 0)), (4, (.ptr 0 0)), (5, (.ptr 1 0)), (6, (.ptr 2 0)), (7, (.float .f32 0)), (8, (.float .f32 (slopeV ns))), (9, (.int .i64 1))] [(.box [(.float .f32 (Prod.fst (Prod.fst r))), (.float .f32 (Prod.fst (Prod.snd (Prod.fst r)))), (.float .f32 (Prod.snd (Prod.snd (Prod.fst r)))), (.float .f32 (Prod.fst (Prod.snd r))), (.float .f32 (Prod.fst (Prod.snd (Prod.snd r)))), (.float .f32 (Prod.snd (Prod.snd (Prod.snd r))))]), (.box [(.float .f32 (a)), (.float .f32 (c)), (.int .i64 (n))]), (.box [(.int .i64 0), (.int .i64 0), (.float .f32 0), (.float .f32 0), (.float .f32 0), (.float .f32 0)])] (lk c_impl_Shape_march 3 Try.f71 [] K))
    (False) := by kernel_rfl
noncomputable def s_impl_Shape_march : Sm := semG [.ref tS, .agg tRay, .agg tM] (fun x => match x with | (ns, r, (a, c, n), _) => okS ns && inR n 1 64) fun x => match x with | (ns, r, (a, c, n), _) => .agg (enc tH (marV ns r (a, c, n)))
theorem ok_impl_Shape_march : FnOk Try.prog 71 s_impl_Shape_march := fnOk_typedG (fnOk_runC (C := c_impl_Shape_march) rfl mixed (.cons ok_impl_Shape_slope (.cons ok_impl_Ray_on (.cons ok_impl_Shape_at .nil))) .nil .nil Try.func71 (by kernel_rfl)) fun (x : ((ShapeD) × (RayD) × ((Nat) × (Nat) × (Int)) × Unit)) wf hg K h => by
  obtain ⟨ns, r, ⟨a, c, n⟩, ⟨⟩⟩ := x
  replace hg : (okS ns && inR n 1 64) = true := hg
  replace h : K (.agg (enc tH (marV ns r (a, c, n)))) [] := h
  rw [w_impl_Shape_march ns r a c n K]
  simp only [Bool.and_eq_true] at hg
  obtain ⟨h0, hn⟩ := hg
  obtain ⟨g1, g2, g3, g4⟩ := okS_good h0
  have hn := inR_iff.1 hn
  rw [g1, d_t g3, d_t g4]
  simp only [Bool.and_self, cond_true]
  refine loop_run (σ := Nat × Int × Nat) (fun q => fr_impl_Shape_march_3 ns r a c n q.2.2 (slopeV ns) q.2.1) (fun q => hp_impl_Shape_march_3 ns r a c n q.2.2 (slopeV ns) q.2.1) (fun q => (q.1 : Int) ≤ n ∧ q.2.1 = n - q.1 + 1 ∧ marGo ns r a c n q.1 q.2.1 q.2.2 = marV ns r (a, c, n)) (fun q => q.1) ?_ (n.toNat, 1, 0) ⟨by simp only; omega, by simp only; omega, rfl⟩
  rintro ⟨j, k, d⟩ ⟨hj, hkj, hgo⟩ Kn hk
  simp only at hj hkj hgo hk ⊢
  rw [r_impl_Shape_march_3 ns r a c n d (slopeV ns) k Kn K, h0]
  rw [← hgo] at h
  cases j with
  | zero =>
    rw [d_f (show ¬ k ≤ n by omega)]
    exact h
  | succ j =>
    have hu : marGo ns r a c n (j + 1) k d = bif flt .f32 (disV ns (onV r d)) a then (1, k, d, onV r d) else
      bif !fle .f32 (fadd .f32 d (fdiv .f32 (disV ns (onV r d)) (slopeV ns))) c then (0, k, fadd .f32 d (fdiv .f32 (disV ns (onV r d)) (slopeV ns)), onV r (fadd .f32 d (fdiv .f32 (disV ns (onV r d)) (slopeV ns)))) else
      marGo ns r a c n j (k + 1) (fadd .f32 d (fdiv .f32 (disV ns (onV r d)) (slopeV ns))) := rfl
    rw [hu] at h hgo
    rw [d_t (show k ≤ n by omega), i64_of (n := k + 1) (by omega) (by omega)]
    have next := hk (j, k + 1, fadd .f32 d (fdiv .f32 (disV ns (onV r d)) (slopeV ns)))
    generalize fadd .f32 d (fdiv .f32 (disV ns (onV r d)) (slopeV ns)) = d' at *
    cases c1 : flt .f32 (disV ns (onV r d)) a with
    | true => rw [c1] at h; exact h
    | false =>
      rw [c1] at h hgo
      cases c2 : (!fle .f32 d' c) with
      | true => rw [c2] at h; exact h
      | false =>
        rw [c2] at hgo
        exact next ⟨by simp only; omega, by simp only; omega, hgo⟩ (Nat.lt_succ_self j)

/-! impl.MarchRay -/
noncomputable def c_impl_MarchRay : Ctx := mkC Try.prog tyT [(33, s_impl_ValidShape), (20, s_impl_ValidRay), (21, s_impl_ValidMarch), (71, s_impl_Shape_march)] [] [] 25 (fun _ => none) 0
theorem w_impl_MarchRay (ns : ShapeD) (r : RayD) (a c : Nat) (n : Int) (K : V → Heap → Prop) : wpFn c_impl_MarchRay Try.f16 (encAs [.agg tS, .agg tRay, .agg tM] (ns, r, (a, c, n), ())) [] K =
  cond (!validS ns)
    (K (.tuple [(.agg [(.int .i64 0), (.int .i64 0), (.float .f32 0), (.float .f32 0), (.float .f32 0), (.float .f32 0)]), (.bool false)]) [])
    (cond (!rayB r)
      (K (.tuple [(.agg [(.int .i64 0), (.int .i64 0), (.float .f32 0), (.float .f32 0), (.float .f32 0), (.float .f32 0)]), (.bool false)]) [])
      (cond (!marB (a, c, n))
        (K (.tuple [(.agg [(.int .i64 0), (.int .i64 0), (.float .f32 0), (.float .f32 0), (.float .f32 0), (.float .f32 0)]), (.bool false)]) [])
        (cond (okS ns && inR n 1 64)
          (K (.tuple [(.agg [(.int .i64 (Prod.fst (marV ns r (a, c, n)))), (.int .i64 (Prod.fst (Prod.snd (marV ns r (a, c, n))))), (.float .f32 (Prod.fst (Prod.snd (Prod.snd (marV ns r (a, c, n)))))), (.float .f32 (Prod.fst (Prod.snd (Prod.snd (Prod.snd (marV ns r (a, c, n))))))), (.float .f32 (Prod.fst (Prod.snd (Prod.snd (Prod.snd (Prod.snd (marV ns r (a, c, n)))))))), (.float .f32 (Prod.snd (Prod.snd (Prod.snd (Prod.snd (Prod.snd (marV ns r (a, c, n))))))))]), (.bool true)]) [])
          (False)))) := by kernel_rfl
noncomputable def s_impl_MarchRay : Sm := semG [.agg tS, .agg tRay, .agg tM] (fun x => match x with | (ns, r, (a, c, n), _) => okS ns && (rayB r && marB (a, c, n))) fun x => match x with | (ns, r, (a, c, n), _) => .tuple [.agg (enc tH (marV ns r (a, c, n))), .bool true]
theorem ok_impl_MarchRay : FnOk Try.prog 16 s_impl_MarchRay := fnOk_typedG (fnOk_runC (C := c_impl_MarchRay) rfl mixed (.cons ok_impl_ValidShape (.cons ok_impl_ValidRay (.cons ok_impl_ValidMarch (.cons ok_impl_Shape_march .nil)))) .nil .nil Try.func16 (by kernel_rfl)) fun (x : ((ShapeD) × (RayD) × ((Nat) × (Nat) × (Int)) × Unit)) wf hg K h => by
  obtain ⟨ns, r, ⟨a, c, n⟩, ⟨⟩⟩ := x
  replace hg : (okS ns && (rayB r && marB (a, c, n))) = true := hg
  replace h : K (.tuple [.agg (enc tH (marV ns r (a, c, n))), .bool true]) [] := h
  rw [w_impl_MarchRay ns r a c n K]
  simp only [Bool.and_eq_true] at hg
  obtain ⟨h0, h1, h2⟩ := hg
  obtain ⟨g1, g2, g3, g4⟩ := okS_good h0
  have h3 : inR n 1 64 = true := by
    unfold marB at h2
    simp only [Bool.and_eq_true] at h2
    exact h2.2.2.2
  rw [g2, h0, h1, h2, h3]
  exact h

end Go.Proofs.Ytfhpmcdbfebflaa

/- Plain: the numbers of turns in drawn shapes; shapes with nodes that change nothing; rays and marches. -/
set_option linter.unusedVariables false
set_option linter.unusedSimpArgs false
set_option maxRecDepth 100000
namespace Go.Proofs.Ytfhpmcdbfebflaa
open Go.Ev Go.Ev.Fl

/-! shapes with nodes that change nothing -/
def exK : List Int := [9, 10, 11, 15]
def exKind (s : SrcD) : Int := (exK[(pickV s 4).toNat]?).getD 0
--B exVal Int → Int → Nat
def exVal (k v : Int) : Nat := bif k == 10 || k == 11 then fadd .f32 (FloatKind.f32.nearest v) 1065353216 else FloatKind.f32.nearest v
abbrev ExD := ShapeD × SrcD
def exGoes (q : ExD) : Bool := decide (q.1.length < 16) && pickV q.2 2 == 0
def exAfter (q : ExD) : SrcD := bif decide (q.1.length < 16) then pickS q.2 2 else q.2
def exN (q : ExD) : NodeD := (exKind (pickS q.2 2), (q.1.length : Int) - 1, 0, List.replicate (kindN (exKind (pickS q.2 2))).toNat (exVal (exKind (pickS q.2 2)) (pickV (pickS (pickS q.2 2) 4) 2)))
def exStep (q : ExD) : ExD := (q.1 ++ [exN q], pickS (pickS (pickS q.2 2) 4) 2)
def exGo : Nat → ExD → ExD
  | 0, q => q
  | n + 1, q => bif exGoes q then exGo n (exStep q) else (q.1, exAfter q)
def ex0 (s : SrcD) : ExD := (shapeV s, shapeS s)
--B exV SrcD → List (Int × Int × Int × List Nat)
def exV (s : SrcD) : ShapeD := (exGo 16 (ex0 s)).1
--B exS SrcD → SrcD
def exS (s : SrcD) : SrcD := (exGo 16 (ex0 s)).2
structure ExOk (q : ExD) : Prop where
  st : Stack q.1 [(q.1.length : Int) - 1]
  b : bytes q.2.1
  lo : 1 ≤ q.1.length
  hi : q.1.length ≤ 16
  t : turnsB q.1 = true
end Go.Proofs.Ytfhpmcdbfebflaa

/- What the laws draw: shapes with nodes that change nothing, rays, marches: walks. -/
set_option linter.unusedVariables false
set_option linter.unusedSimpArgs false
set_option maxRecDepth 100000
namespace Go.Proofs.Ytfhpmcdbfebflaa
open Go.Ev Go.Ev.Fl

/-! spec.l05DrawShape -/
/-! spec.B10Shape -/
end Go.Proofs.Ytfhpmcdbfebflaa

/- What the laws of the first kind draw: rays, marches, numbers by index. -/
set_option linter.unusedVariables false
set_option linter.unusedSimpArgs false
set_option maxRecDepth 100000
namespace Go.Proofs.Ytfhpmcdbfebflaa
open Go.Ev Go.Ev.Fl

/-! laws.b10Long -/
noncomputable def c_laws_b10Long : Ctx := mkC Try.prog tyT [] [] [] 13 (fun _ => none) 0
theorem w_laws_b10Long (xs ys : List Int) (K : V → Heap → Prop) : wpFn c_laws_b10Long Try.f12 (encAs [.cell tB, .cell tB] (xs, ys, ())) [] K =
  cond (decide ((↑(List.length xs) : Int) > 1048576))
    (K (.bool true) [])
    (K (.bool (decide ((↑(List.length ys) : Int) > 1048576))) []) := by kernel_rfl
noncomputable def s_laws_b10Long : Sm := semT [.cell tB, .cell tB] fun x => match x with | (xs, ys, _) => .bool (decide (1048576 < xs.length) || decide (1048576 < ys.length))
theorem ok_laws_b10Long : FnOk Try.prog 12 s_laws_b10Long := fnOk_typed (fnOk_runC (C := c_laws_b10Long) rfl mixed .nil .nil .nil Try.func12 (by kernel_rfl)) fun (x : ((List Int) × (List Int) × Unit)) wf K h => by
  obtain ⟨xs, ys, ⟨⟩⟩ := x
  replace h : K (.bool (decide (1048576 < xs.length) || decide (1048576 < ys.length))) [] := h
  rw [w_laws_b10Long xs ys K]
  have e : ∀ n : Nat, decide ((n : Int) > 1048576) = decide (1048576 < n) := fun n => decide_eq_decide.2 (by omega)
  rw [e, e]
  cases h1 : decide (1048576 < xs.length) <;> rw [h1] at h <;> exact h

--B bAtV List Int → Int → Int → Int
def bAtV (xs : List Int) (i n : Int) : Int := bif decide (n ≤ 1) then 0 else bif decide (i < (xs.length : Int)) then ((xs[i.toNat]?).getD 0).tmod n else (i * 37 + 11).tmod n
/-! laws.b10At -/
noncomputable def c_laws_b10At : Ctx := mkC Try.prog tyT [] [] [] 25 (fun _ => none) 0
theorem w_laws_b10At (xs : List Int) (i n : Int) (K : V → Heap → Prop) : wpFn c_laws_b10At Try.f19 (encAs [.cell tB, .cell (.int .i64), .cell (.int .i64)] (xs, i, n, ())) [] K =
  cond (decide (n ≤ 1))
    (K (.int .i64 0) [])
    (cond (decide (i < (↑(List.length xs) : Int)))
      (cond (decide (0 ≤ i))
        ((match xs[Int.toNat i]? with
          | some y0 => cond (n == 0)
            (False)
            (K (.int .i64 (Int.tmod (IntKind.wrap IntKind.i64 y0) n)) [])
          | none => False))
        (False))
      (cond (n == 0)
        (False)
        (K (.int .i64 (Int.tmod (IntKind.wrap IntKind.i64 (IntKind.wrap IntKind.i64 (i * 37) + 11)) n)) []))) := by kernel_rfl
noncomputable def s_laws_b10At : Sm := semG [.cell tB, .cell (.int .i64), .cell (.int .i64)] (fun x => match x with | (xs, i, n, _) => decide (0 ≤ i) && decide (i ≤ 1000)) fun x => match x with | (xs, i, n, _) => .int .i64 (bAtV xs i n)
theorem ok_laws_b10At : FnOk Try.prog 19 s_laws_b10At := fnOk_typedG (fnOk_runC (C := c_laws_b10At) rfl mixed .nil .nil .nil Try.func19 (by kernel_rfl)) fun (x : ((List Int) × (Int) × (Int) × Unit)) wf hg K h => by
  obtain ⟨xs, i, n, ⟨⟩⟩ := x
  replace hg : (decide (0 ≤ i) && decide (i ≤ 1000)) = true := hg
  replace h : K (.int .i64 (bAtV xs i n)) [] := h
  rw [w_laws_b10At xs i n K]
  simp only [Bool.and_eq_true, decide_eq_true_eq] at hg
  unfold bAtV at h
  by_cases h1 : n ≤ 1
  · rw [d_t h1] at h ⊢; exact h
  · rw [d_f h1] at h ⊢
    simp only [cond_false] at h ⊢
    rw [beq_eq_false_iff_ne.2 (show n ≠ 0 by omega)]
    by_cases h2 : i < (xs.length : Int)
    · rw [d_t h2] at h ⊢
      have hl : i.toNat < xs.length := by omega
      rw [d_t hg.1, get_lt hl] at *
      have hb := bytes_of wf.1 _ (List.getElem_mem hl)
      simp only [cond_true, cond_false, Option.getD_some] at h ⊢
      rw [i64_of (by omega) (by omega)]
      exact h
    · rw [d_f h2] at h ⊢
      rw [i64_of (n := i * 37) (by omega) (by omega), i64_of (by omega) (by omega)]
      exact h

theorem bAt_range {xs : List Int} (hb : bytes xs) {i n : Int} (hi : 0 ≤ i) (hn : 1 ≤ n) : 0 ≤ bAtV xs i n ∧ bAtV xs i n < n := by
  unfold bAtV
  by_cases h1 : n ≤ 1
  · rw [d_t h1]; simp only [cond_true]; omega
  · rw [d_f h1]
    simp only [cond_false]
    have pos : ∀ x : Int, 0 ≤ x → 0 ≤ x.tmod n ∧ x.tmod n < n := fun x hx => ⟨Int.tmod_nonneg _ hx, Int.tmod_lt_of_pos _ (by omega)⟩
    cases decide (i < (xs.length : Int)) with
    | false => exact pos _ (by omega)
    | true =>
      refine pos _ ?_
      cases e : xs[i.toNat]? with
      | none => simp
      | some b => exact (hb b (List.mem_of_getElem? e)).1

def rayS (xs : List Int) : SrcD := smallS (smallS (xs, 0, 0))
--B rayV List Int → (Nat × Nat × Nat) × (Nat × Nat × Nat)
def rayV (xs : List Int) : RayD := ((smallV (xs, 0, 0), smallV (smallS (xs, 0, 0)), FloatKind.f32.nearest (-5 - pickV (rayS xs) 4)), (smallV (pickS (rayS xs) 4), 0, 1082130432))
/-! spec.B10Ray -/
--B marchV List Int → Nat × Nat × Int
def marchV (xs : List Int) : Nat × Nat × Int := (fdiv .f32 (FloatKind.f32.nearest (1 + pickV (xs, 0, 0) 8)) 1115684864, fdiv .f32 (FloatKind.f32.nearest (pickV (pickS (xs, 0, 0) 8) 64)) 1073741824, 1 + pickV (pickS (pickS (xs, 0, 0) 8) 64) 24)
/-! spec.B10March -/
theorem all_range {N : Nat} {p : Int → Bool} (h : (List.range N).all (fun j => p (Int.ofNat j)) = true) {n : Int} (hn : 0 ≤ n ∧ n < N) : p n = true := by
  have := List.all_eq_true.1 h n.toNat (by simp; omega)
  have e : Int.ofNat n.toNat = n := Int.toNat_of_nonneg hn.1
  rw [e] at this
  exact this
end Go.Proofs.Ytfhpmcdbfebflaa

/- Normals of shapes, single balls: walks. -/
set_option linter.unusedVariables false
set_option linter.unusedSimpArgs false
set_option maxRecDepth 100000
namespace Go.Proofs.Ytfhpmcdbfebflaa
open Go.Ev Go.Ev.Fl

def ofV (ns : ShapeD) (p v : V3) : Nat := fsub .f32 (disV ns (addV p v)) (disV ns (subV p v))
--B norV List (Int × Int × Int × List Nat) → Nat × Nat × Nat → Nat → Nat × Nat × Nat
def norV (ns : ShapeD) (p : V3) (d : Nat) : V3 := unitV (ofV ns p (d, 0, 0), ofV ns p (0, d, 0), ofV ns p (0, 0, d))

noncomputable def c_impl_Shape_normal_1 : Ctx := mkC Try.prog tyT [(109, s_impl_AddVectors), (39, s_impl_LessVectors), (73, s_impl_Shape_at)] [] [] 16 (fun _ => none) 0
noncomputable def s_impl_Shape_normal_1 : Sm := wpFn c_impl_Shape_normal_1 Try.f148
theorem ok_impl_Shape_normal_1 : FnOk Try.prog 148 s_impl_Shape_normal_1 := fnOk_runC (C := c_impl_Shape_normal_1) rfl mixed (.cons ok_impl_AddVectors (.cons ok_impl_LessVectors (.cons ok_impl_Shape_at .nil))) .nil .nil Try.func148 (by kernel_rfl)

/-! (*impl.Shape).normal -/
noncomputable def c_impl_Shape_normal : Ctx := mkC Try.prog tyT [(148, s_impl_Shape_normal_1), (76, s_impl_UnitOf)] [] [] 23 (fun _ => none) 0
theorem w_impl_Shape_normal (ns : ShapeD) (p : V3) (d : Nat) (K : V → Heap → Prop) : wpFn c_impl_Shape_normal Try.f104 (encAs [.ref tS, .agg tV, .cell tF] (ns, p, d, ())) [] K =
  cond (okS ns)
    (cond (okS ns)
      (cond (okS ns)
        (cond (okS ns)
          (cond (okS ns)
            (cond (okS ns)
              (K (.agg [(.float .f32 (Prod.fst (unitV (fsub FloatKind.f32 (disV ns (addV p (d, 0, 0))) (disV ns (subV p (d, 0, 0))), fsub FloatKind.f32 (disV ns (addV p (0, d, 0))) (disV ns (subV p (0, d, 0))), fsub FloatKind.f32 (disV ns (addV p (0, 0, d))) (disV ns (subV p (0, 0, d))))))), (.float .f32 (Prod.fst (Prod.snd (unitV (fsub FloatKind.f32 (disV ns (addV p (d, 0, 0))) (disV ns (subV p (d, 0, 0))), fsub FloatKind.f32 (disV ns (addV p (0, d, 0))) (disV ns (subV p (0, d, 0))), fsub FloatKind.f32 (disV ns (addV p (0, 0, d))) (disV ns (subV p (0, 0, d)))))))), (.float .f32 (Prod.snd (Prod.snd (unitV (fsub FloatKind.f32 (disV ns (addV p (d, 0, 0))) (disV ns (subV p (d, 0, 0))), fsub FloatKind.f32 (disV ns (addV p (0, d, 0))) (disV ns (subV p (0, d, 0))), fsub FloatKind.f32 (disV ns (addV p (0, 0, d))) (disV ns (subV p (0, 0, d))))))))]) [])
              (False))
            (False))
          (False))
        (False))
      (False))
    (False) := by kernel_rfl
noncomputable def s_impl_Shape_normal : Sm := semG [.ref tS, .agg tV, .cell tF] (fun x => match x with | (ns, p, d, _) => okS ns) fun x => match x with | (ns, p, d, _) => .agg (enc tV (norV ns p d))
theorem ok_impl_Shape_normal : FnOk Try.prog 104 s_impl_Shape_normal := fnOk_typedG (fnOk_runC (C := c_impl_Shape_normal) rfl mixed (.cons ok_impl_Shape_normal_1 (.cons ok_impl_UnitOf .nil)) .nil .nil Try.func104 (by kernel_rfl)) fun (x : ((ShapeD) × (V3) × (Nat) × Unit)) wf hg K h => by
  obtain ⟨ns, p, d, ⟨⟩⟩ := x
  replace hg : (okS ns) = true := hg
  replace h : K (.agg (enc tV (norV ns p d))) [] := h
  rw [w_impl_Shape_normal ns p d K]
  rw [hg]
  exact h

/-! impl.NormalAt -/
noncomputable def c_impl_NormalAt : Ctx := mkC Try.prog tyT [(33, s_impl_ValidShape), (77, s_impl_stepOk), (104, s_impl_Shape_normal)] [] [] 20 (fun _ => none) 0
theorem w_impl_NormalAt (ns : ShapeD) (p : V3) (d : Nat) (K : V → Heap → Prop) : wpFn c_impl_NormalAt Try.f44 (encAs [.agg tS, .agg tV, .cell tF] (ns, p, d, ())) [] K =
  cond (!validS ns)
    (K (.tuple [(.agg [(.float .f32 0), (.float .f32 0), (.float .f32 0)]), (.bool false)]) [])
    (cond (!(finN d && fgt FloatKind.f32 d 0))
      (K (.tuple [(.agg [(.float .f32 0), (.float .f32 0), (.float .f32 0)]), (.bool false)]) [])
      (cond (okS ns)
        (K (.tuple [(.agg [(.float .f32 (Prod.fst (norV ns p d))), (.float .f32 (Prod.fst (Prod.snd (norV ns p d)))), (.float .f32 (Prod.snd (Prod.snd (norV ns p d))))]), (.bool true)]) [])
        (False))) := by kernel_rfl
noncomputable def s_impl_NormalAt : Sm := semG [.agg tS, .agg tV, .cell tF] (fun x => match x with | (ns, p, d, _) => okS ns && (finN d && fgt .f32 d 0)) fun x => match x with | (ns, p, d, _) => .tuple [.agg (enc tV (norV ns p d)), .bool true]
theorem ok_impl_NormalAt : FnOk Try.prog 44 s_impl_NormalAt := fnOk_typedG (fnOk_runC (C := c_impl_NormalAt) rfl mixed (.cons ok_impl_ValidShape (.cons ok_impl_stepOk (.cons ok_impl_Shape_normal .nil))) .nil .nil Try.func44 (by kernel_rfl)) fun (x : ((ShapeD) × (V3) × (Nat) × Unit)) wf hg K h => by
  obtain ⟨ns, p, d, ⟨⟩⟩ := x
  replace hg : (okS ns && (finN d && fgt .f32 d 0)) = true := hg
  replace h : K (.tuple [.agg (enc tV (norV ns p d)), .bool true]) [] := h
  rw [w_impl_NormalAt ns p d K]
  simp only [Bool.and_eq_true] at hg
  obtain ⟨h0, h1, h2⟩ := hg
  obtain ⟨g1, g2, g3, g4⟩ := okS_good h0
  rw [g2, h0, h1, h2]
  exact h

/-! laws.b10Ball -/
noncomputable def c_laws_b10Ball : Ctx := mkC Try.prog tyT [] [] [] 8 (fun _ => none) 0 false [] false true
theorem w_laws_b10Ball (r : Nat) (K : V → Heap → Prop) : wpFn c_laws_b10Ball Try.f42 (encAs [.cell tF] (r, ())) [] K =
  K (.agg [(.vec tN ([((0 : Int), (0 : Int), (0 : Int), [r])]))]) [] := by kernel_rfl
noncomputable def s_laws_b10Ball : Sm := semT [.cell tF] fun x => match x with | (r, _) => .agg [.vec tN [(0, 0, 0, [r])]]
theorem ok_laws_b10Ball : FnOk Try.prog 42 s_laws_b10Ball := fnOk_typed (fnOk_runC (C := c_laws_b10Ball) rfl mixed .nil .nil .nil Try.func42 (by kernel_rfl)) fun (x : ((Nat) × Unit)) wf K h => by
  obtain ⟨r, ⟨⟩⟩ := x
  replace h : K (.agg [.vec tN [(0, 0, 0, [r])]]) [] := h
  rw [w_laws_b10Ball r K]
  exact h

--B gapW Nat → Nat → Nat
def gapW (x y : Nat) : Nat := bif flt .f64 x y then fsub .f64 y x else fsub .f64 x y
/-! laws.b10Gap -/
noncomputable def c_laws_b10Gap : Ctx := mkC Try.prog tyT [] [] [] 14 (fun _ => none) 0
theorem w_laws_b10Gap (x y : Nat) (K : V → Heap → Prop) : wpFn c_laws_b10Gap Try.f45 (encAs [.cell (.float .f64), .cell (.float .f64)] (x, y, ())) [] K =
  cond (flt FloatKind.f64 x y)
    (K (.float .f64 (fsub FloatKind.f64 y x)) [])
    (K (.float .f64 (fsub FloatKind.f64 x y)) []) := by kernel_rfl
noncomputable def s_laws_b10Gap : Sm := semT [.cell (.float .f64), .cell (.float .f64)] fun x => match x with | (x, y, _) => .float .f64 (gapW x y)
theorem ok_laws_b10Gap : FnOk Try.prog 45 s_laws_b10Gap := fnOk_typed (fnOk_runC (C := c_laws_b10Gap) rfl mixed .nil .nil .nil Try.func45 (by kernel_rfl)) fun (x : ((Nat) × (Nat) × Unit)) wf K h => by
  obtain ⟨x, y, ⟨⟩⟩ := x
  replace h : K (.float .f64 (gapW x y)) [] := h
  rw [w_laws_b10Gap x y K]
  unfold gapW at h
  cases e : flt .f64 x y <;> rw [e] at h <;> exact h

end Go.Proofs.Ytfhpmcdbfebflaa

/- The law of rays towards balls. -/
set_option linter.unusedVariables false
set_option linter.unusedSimpArgs false
set_option maxRecDepth 100000
namespace Go.Proofs.Ytfhpmcdbfebflaa
open Go.Ev Go.Ev.Fl

/-! plain -/
def bR (a : Int) : Nat := FloatKind.f32.nearest (1 + a)
def bF (a c : Int) : Nat := fadd .f32 (bR a) (bR c)
def bY (a c : Int) : RayD := ((fneg .f32 (bF a c), 0, 0), (1073741824, 0, 0))
def bS (a : Int) : ShapeD := [(0, 0, 0, [bR a])]
def bN (e : Int) : Nat := fdiv .f32 (bR e) 1115684864
def b1 (a c : Int) : Bool := okS (bS a) && (rayB (bY a c) && (Nat.beq (disV (bS a) (onV (bY a c) 0)) (bR c) && (Nat.beq (fadd .f32 0 (fdiv .f32 (bR c) (slopeV (bS a)))) (bR c) && ((onV (bY a c) (bR c) == (fneg .f32 (bR a), 0, 0)) && (Nat.beq (disV (bS a) (fneg .f32 (bR a), 0, 0)) 0 &&
  (feq .f32 (fdiv .f32 (disV (bS a) (fneg .f32 (bF a c), 0, 0)) (slopeV (bS a))) (fsub .f32 (bF a c) (bR a)) && Nat.beq (gapW (widen (bR c)) (widen (fsub .f32 (bF a c) (bR a)))) 0))))))
def b2 (a : Int) : Bool := (fun n : V3 => flt .f64 (gapW (widen n.1) 13830554455654793216) 4562254508917369340 && (flt .f64 (gapW (widen n.2.1) 0) 4562254508917369340 && flt .f64 (gapW (widen n.2.2) 0) 4562254508917369340)) (norV (bS a) (fneg .f32 (bR a), 0, 0) 1048576000)
def b3 (e : Int) : Bool := marB (bN e, 1115684864, 20) && (flt .f32 0 (bN e) && !fgt .f64 0 (fadd .f64 (widen (bN e)) 4562254508917369340))
def b4 (c e : Int) : Bool := !flt .f32 (bR c) (bN e)
def b5 (c : Int) : Bool := fle .f32 (bR c) 1115684864
theorem tab_b1 : (List.range 4).all (fun i => (List.range 20).all fun j => b1 (Int.ofNat i) (Int.ofNat j)) = true := by decide +kernel
theorem tab_b2 : (List.range 4).all (fun i => b2 (Int.ofNat i)) = true := by decide +kernel
theorem tab_b3 : (List.range 8).all (fun i => b3 (Int.ofNat i)) = true := by decide +kernel
theorem tab_b4 : (List.range 20).all (fun i => (List.range 8).all fun j => b4 (Int.ofNat i) (Int.ofNat j)) = true := by decide +kernel
theorem tab_b5 : (List.range 20).all (fun i => b5 (Int.ofNat i)) = true := by decide +kernel
theorem all_range2 {N M : Nat} {p : Int → Int → Bool} (h : (List.range N).all (fun i => (List.range M).all fun j => p (Int.ofNat i) (Int.ofNat j)) = true) {n m : Int} (hn : 0 ≤ n ∧ n < N) (hm : 0 ≤ m ∧ m < M) : p n m = true :=
  all_range (p := p n) (all_range (p := fun n => (List.range M).all fun j => p n (Int.ofNat j)) h hn) hm
theorem march_ball {a c e : Int} (h1 : b1 a c = true) (h3 : b3 e = true) (h4 : b4 c e = true) (h5 : b5 c = true) : marV (bS a) (bY a c) (bN e, 1115684864, 20) = (1, 2, bR c, (fneg .f32 (bR a), 0, 0)) := by
  unfold b1 at h1
  unfold b3 at h3
  unfold b4 at h4
  unfold b5 at h5
  simp only [Bool.and_eq_true, beq_iff_eq, Nat.beq_eq, Bool.not_eq_true'] at h1 h3 h4 h5
  obtain ⟨_, _, k1, k2, k3, k4, _, _⟩ := h1
  have e1 : marV (bS a) (bY a c) (bN e, 1115684864, 20) = bif flt .f32 (disV (bS a) (onV (bY a c) 0)) (bN e) then (1, 1, 0, onV (bY a c) 0) else
    bif !fle .f32 (fadd .f32 0 (fdiv .f32 (disV (bS a) (onV (bY a c) 0)) (slopeV (bS a)))) 1115684864 then (0, 1, fadd .f32 0 (fdiv .f32 (disV (bS a) (onV (bY a c) 0)) (slopeV (bS a))), onV (bY a c) (fadd .f32 0 (fdiv .f32 (disV (bS a) (onV (bY a c) 0)) (slopeV (bS a))))) else
    marGo (bS a) (bY a c) (bN e) 1115684864 20 19 (1 + 1) (fadd .f32 0 (fdiv .f32 (disV (bS a) (onV (bY a c) 0)) (slopeV (bS a)))) := rfl
  rw [e1, k1, h4, k2, h5]
  simp only [Bool.not_true, cond_false]
  have e2 : marGo (bS a) (bY a c) (bN e) 1115684864 20 19 (1 + 1) (bR c) = bif flt .f32 (disV (bS a) (onV (bY a c) (bR c))) (bN e) then (1, 1 + 1, bR c, onV (bY a c) (bR c)) else
    bif !fle .f32 (fadd .f32 (bR c) (fdiv .f32 (disV (bS a) (onV (bY a c) (bR c))) (slopeV (bS a)))) 1115684864 then (0, 1 + 1, fadd .f32 (bR c) (fdiv .f32 (disV (bS a) (onV (bY a c) (bR c))) (slopeV (bS a))), onV (bY a c) (fadd .f32 (bR c) (fdiv .f32 (disV (bS a) (onV (bY a c) (bR c))) (slopeV (bS a))))) else
    marGo (bS a) (bY a c) (bN e) 1115684864 20 18 (1 + 1 + 1) (fadd .f32 (bR c) (fdiv .f32 (disV (bS a) (onV (bY a c) (bR c))) (slopeV (bS a)))) := rfl
  rw [e2, k3, k4, h3.2.1]
  rfl

/-! laws.FnBalls -/
noncomputable def c_laws_FnBalls : Ctx := mkC Try.prog tyT [(12, s_laws_b10Long), (19, s_laws_b10At), (42, s_laws_b10Ball), (16, s_impl_MarchRay), (43, s_impl_SafeStep), (44, s_impl_NormalAt), (45, s_laws_b10Gap)] [] [] 119 (fun _ => none) 0 false [] false true
theorem w_laws_FnBalls (xs ys : List Int) (K : V → Heap → Prop) : wpFn c_laws_FnBalls Try.f7 (encAs [.cell tB, .cell tB] (xs, ys, ())) [] K =
  cond (decide (1048576 < List.length xs) || decide (1048576 < List.length ys))
    (K (.bool true) [])
    (cond (okS [((0 : Int), (0 : Int), (0 : Int), [FloatKind.nearest FloatKind.f32 (IntKind.wrap IntKind.i64 ((1 : Int) + bAtV xs (0 : Int) (4 : Int)))])] && (rayB ((fneg FloatKind.f32 (fadd FloatKind.f32 (FloatKind.nearest FloatKind.f32 (IntKind.wrap IntKind.i64 ((1 : Int) + bAtV xs (0 : Int) (4 : Int)))) (FloatKind.nearest FloatKind.f32 (IntKind.wrap IntKind.i64 ((1 : Int) + bAtV xs (1 : Int) (20 : Int))))), (0 : Nat), (0 : Nat)), (1073741824 : Nat), (0 : Nat), (0 : Nat)) && marB (fdiv FloatKind.f32 (FloatKind.nearest FloatKind.f32 (IntKind.wrap IntKind.i64 ((1 : Int) + bAtV ys (0 : Int) (8 : Int)))) (1115684864 : Nat), (1115684864 : Nat), (20 : Int))))
      (cond (okS [((0 : Int), (0 : Int), (0 : Int), [FloatKind.nearest FloatKind.f32 (IntKind.wrap IntKind.i64 ((1 : Int) + bAtV xs (0 : Int) (4 : Int)))])])
        (cond (okS [((0 : Int), (0 : Int), (0 : Int), [FloatKind.nearest FloatKind.f32 (IntKind.wrap IntKind.i64 ((1 : Int) + bAtV xs (0 : Int) (4 : Int)))])] && (finN (1048576000 : Nat) && fgt FloatKind.f32 (1048576000 : Nat) (0 : Nat)))
          (cond (Prod.fst (marV [((0 : Int), (0 : Int), (0 : Int), [FloatKind.nearest FloatKind.f32 (IntKind.wrap IntKind.i64 ((1 : Int) + bAtV xs (0 : Int) (4 : Int)))])] ((fneg FloatKind.f32 (fadd FloatKind.f32 (FloatKind.nearest FloatKind.f32 (IntKind.wrap IntKind.i64 ((1 : Int) + bAtV xs (0 : Int) (4 : Int)))) (FloatKind.nearest FloatKind.f32 (IntKind.wrap IntKind.i64 ((1 : Int) + bAtV xs (1 : Int) (20 : Int))))), (0 : Nat), (0 : Nat)), (1073741824 : Nat), (0 : Nat), (0 : Nat)) (fdiv FloatKind.f32 (FloatKind.nearest FloatKind.f32 (IntKind.wrap IntKind.i64 ((1 : Int) + bAtV ys (0 : Int) (8 : Int)))) (1115684864 : Nat), (1115684864 : Nat), (20 : Int))) != (1 : Int))
            (K (.bool false) [])
            (cond (!feq FloatKind.f32 (fdiv FloatKind.f32 (disV [((0 : Int), (0 : Int), (0 : Int), [FloatKind.nearest FloatKind.f32 (IntKind.wrap IntKind.i64 ((1 : Int) + bAtV xs (0 : Int) (4 : Int)))])] (fneg FloatKind.f32 (fadd FloatKind.f32 (FloatKind.nearest FloatKind.f32 (IntKind.wrap IntKind.i64 ((1 : Int) + bAtV xs (0 : Int) (4 : Int)))) (FloatKind.nearest FloatKind.f32 (IntKind.wrap IntKind.i64 ((1 : Int) + bAtV xs (1 : Int) (20 : Int))))), (0 : Nat), (0 : Nat))) (slopeV [((0 : Int), (0 : Int), (0 : Int), [FloatKind.nearest FloatKind.f32 (IntKind.wrap IntKind.i64 ((1 : Int) + bAtV xs (0 : Int) (4 : Int)))])])) (fsub FloatKind.f32 (fadd FloatKind.f32 (FloatKind.nearest FloatKind.f32 (IntKind.wrap IntKind.i64 ((1 : Int) + bAtV xs (0 : Int) (4 : Int)))) (FloatKind.nearest FloatKind.f32 (IntKind.wrap IntKind.i64 ((1 : Int) + bAtV xs (1 : Int) (20 : Int))))) (FloatKind.nearest FloatKind.f32 (IntKind.wrap IntKind.i64 ((1 : Int) + bAtV xs (0 : Int) (4 : Int))))))
              (K (.bool false) [])
              (cond (fgt FloatKind.f64 (gapW (widen (Prod.fst (Prod.snd (Prod.snd (marV [((0 : Int), (0 : Int), (0 : Int), [FloatKind.nearest FloatKind.f32 (IntKind.wrap IntKind.i64 ((1 : Int) + bAtV xs (0 : Int) (4 : Int)))])] ((fneg FloatKind.f32 (fadd FloatKind.f32 (FloatKind.nearest FloatKind.f32 (IntKind.wrap IntKind.i64 ((1 : Int) + bAtV xs (0 : Int) (4 : Int)))) (FloatKind.nearest FloatKind.f32 (IntKind.wrap IntKind.i64 ((1 : Int) + bAtV xs (1 : Int) (20 : Int))))), (0 : Nat), (0 : Nat)), (1073741824 : Nat), (0 : Nat), (0 : Nat)) (fdiv FloatKind.f32 (FloatKind.nearest FloatKind.f32 (IntKind.wrap IntKind.i64 ((1 : Int) + bAtV ys (0 : Int) (8 : Int)))) (1115684864 : Nat), (1115684864 : Nat), (20 : Int))))))) (widen (fsub FloatKind.f32 (fadd FloatKind.f32 (FloatKind.nearest FloatKind.f32 (IntKind.wrap IntKind.i64 ((1 : Int) + bAtV xs (0 : Int) (4 : Int)))) (FloatKind.nearest FloatKind.f32 (IntKind.wrap IntKind.i64 ((1 : Int) + bAtV xs (1 : Int) (20 : Int))))) (FloatKind.nearest FloatKind.f32 (IntKind.wrap IntKind.i64 ((1 : Int) + bAtV xs (0 : Int) (4 : Int))))))) (fadd FloatKind.f64 (widen (fdiv FloatKind.f32 (FloatKind.nearest FloatKind.f32 (IntKind.wrap IntKind.i64 ((1 : Int) + bAtV ys (0 : Int) (8 : Int)))) (1115684864 : Nat))) (4562254508917369340 : Nat)))
                (K (.bool false) [])
                (cond (flt FloatKind.f64 (gapW (widen (Prod.fst (norV [((0 : Int), (0 : Int), (0 : Int), [FloatKind.nearest FloatKind.f32 (IntKind.wrap IntKind.i64 ((1 : Int) + bAtV xs (0 : Int) (4 : Int)))])] (Prod.snd (Prod.snd (Prod.snd (marV [((0 : Int), (0 : Int), (0 : Int), [FloatKind.nearest FloatKind.f32 (IntKind.wrap IntKind.i64 ((1 : Int) + bAtV xs (0 : Int) (4 : Int)))])] ((fneg FloatKind.f32 (fadd FloatKind.f32 (FloatKind.nearest FloatKind.f32 (IntKind.wrap IntKind.i64 ((1 : Int) + bAtV xs (0 : Int) (4 : Int)))) (FloatKind.nearest FloatKind.f32 (IntKind.wrap IntKind.i64 ((1 : Int) + bAtV xs (1 : Int) (20 : Int))))), (0 : Nat), (0 : Nat)), (1073741824 : Nat), (0 : Nat), (0 : Nat)) (fdiv FloatKind.f32 (FloatKind.nearest FloatKind.f32 (IntKind.wrap IntKind.i64 ((1 : Int) + bAtV ys (0 : Int) (8 : Int)))) (1115684864 : Nat), (1115684864 : Nat), (20 : Int)))))) (1048576000 : Nat)))) (13830554455654793216 : Nat)) (4562254508917369340 : Nat))
                  (cond (flt FloatKind.f64 (gapW (widen (Prod.fst (Prod.snd (norV [((0 : Int), (0 : Int), (0 : Int), [FloatKind.nearest FloatKind.f32 (IntKind.wrap IntKind.i64 ((1 : Int) + bAtV xs (0 : Int) (4 : Int)))])] (Prod.snd (Prod.snd (Prod.snd (marV [((0 : Int), (0 : Int), (0 : Int), [FloatKind.nearest FloatKind.f32 (IntKind.wrap IntKind.i64 ((1 : Int) + bAtV xs (0 : Int) (4 : Int)))])] ((fneg FloatKind.f32 (fadd FloatKind.f32 (FloatKind.nearest FloatKind.f32 (IntKind.wrap IntKind.i64 ((1 : Int) + bAtV xs (0 : Int) (4 : Int)))) (FloatKind.nearest FloatKind.f32 (IntKind.wrap IntKind.i64 ((1 : Int) + bAtV xs (1 : Int) (20 : Int))))), (0 : Nat), (0 : Nat)), (1073741824 : Nat), (0 : Nat), (0 : Nat)) (fdiv FloatKind.f32 (FloatKind.nearest FloatKind.f32 (IntKind.wrap IntKind.i64 ((1 : Int) + bAtV ys (0 : Int) (8 : Int)))) (1115684864 : Nat), (1115684864 : Nat), (20 : Int)))))) (1048576000 : Nat))))) (0 : Nat)) (4562254508917369340 : Nat))
                    (K (.bool (flt FloatKind.f64 (gapW (widen (Prod.snd (Prod.snd (norV [((0 : Int), (0 : Int), (0 : Int), [FloatKind.nearest FloatKind.f32 (IntKind.wrap IntKind.i64 ((1 : Int) + bAtV xs (0 : Int) (4 : Int)))])] (Prod.snd (Prod.snd (Prod.snd (marV [((0 : Int), (0 : Int), (0 : Int), [FloatKind.nearest FloatKind.f32 (IntKind.wrap IntKind.i64 ((1 : Int) + bAtV xs (0 : Int) (4 : Int)))])] ((fneg FloatKind.f32 (fadd FloatKind.f32 (FloatKind.nearest FloatKind.f32 (IntKind.wrap IntKind.i64 ((1 : Int) + bAtV xs (0 : Int) (4 : Int)))) (FloatKind.nearest FloatKind.f32 (IntKind.wrap IntKind.i64 ((1 : Int) + bAtV xs (1 : Int) (20 : Int))))), (0 : Nat), (0 : Nat)), (1073741824 : Nat), (0 : Nat), (0 : Nat)) (fdiv FloatKind.f32 (FloatKind.nearest FloatKind.f32 (IntKind.wrap IntKind.i64 ((1 : Int) + bAtV ys (0 : Int) (8 : Int)))) (1115684864 : Nat), (1115684864 : Nat), (20 : Int)))))) (1048576000 : Nat))))) (0 : Nat)) (4562254508917369340 : Nat))) [])
                    (K (.bool false) []))
                  (K (.bool false) [])))))
          (False))
        (False))
      (False)) := by kernel_rfl
noncomputable def s_laws_FnBalls : Sm := semT [.cell tB, .cell tB] fun x => match x with | (xs, ys, _) => .bool true
theorem ok_laws_FnBalls : FnOk Try.prog 7 s_laws_FnBalls := fnOk_typed (fnOk_runC (C := c_laws_FnBalls) rfl mixed (.cons ok_laws_b10Long (.cons ok_laws_b10At (.cons ok_laws_b10Ball (.cons ok_impl_MarchRay (.cons ok_impl_SafeStep (.cons ok_impl_NormalAt (.cons ok_laws_b10Gap .nil))))))) .nil .nil Try.func7 (by kernel_rfl)) fun (x : ((List Int) × (List Int) × Unit)) wf K h => by
  obtain ⟨xs, ys, ⟨⟩⟩ := x
  replace h : K (.bool true) [] := h
  rw [w_laws_FnBalls xs ys K]
  have bx : bytes xs := bytes_of wf.1
  have bY' : bytes ys := bytes_of wf.2.1
  have ra := bAt_range bx (i := 0) (n := 4) (by omega) (by omega)
  have rc := bAt_range bx (i := 1) (n := 20) (by omega) (by omega)
  have re := bAt_range bY' (i := 0) (n := 8) (by omega) (by omega)
  cases (decide (1048576 < xs.length) || decide (1048576 < ys.length)) with
  | true => exact h
  | false =>
  generalize bAtV xs 0 4 = a at *
  generalize bAtV xs 1 20 = c at *
  generalize bAtV ys 0 8 = e at *
  rw [i64_of (n := 1 + a) (by omega) (by omega), i64_of (n := 1 + c) (by omega) (by omega), i64_of (n := 1 + e) (by omega) (by omega)]
  have h1 := all_range2 (p := b1) tab_b1 ra rc
  have h2 := all_range (p := b2) tab_b2 ra
  have h3 := all_range (p := b3) tab_b3 re
  have h4 := all_range2 (p := b4) tab_b4 rc re
  have h5 := all_range (p := b5) tab_b5 rc
  have hm := march_ball h1 h3 h4 h5
  unfold b1 at h1
  unfold b2 at h2
  unfold b3 at h3
  simp only [Bool.and_eq_true, beq_iff_eq, Nat.beq_eq, Bool.not_eq_true'] at h1 h2 h3
  obtain ⟨o1, o2, _, _, _, _, o3, o4⟩ := h1
  obtain ⟨o5, _, o6⟩ := h3
  obtain ⟨o7, o8, o9⟩ := h2
  have f1 : (finN (1048576000 : Nat) && fgt .f32 (1048576000 : Nat) (0 : Nat)) = true := by decide +kernel
  have q1 : FloatKind.f32.nearest (1 + a) = bR a := rfl
  have q2 : FloatKind.f32.nearest (1 + c) = bR c := rfl
  have q3 : fdiv .f32 (FloatKind.f32.nearest (1 + e)) 1115684864 = bN e := rfl
  have q4 : fadd .f32 (bR a) (bR c) = bF a c := rfl
  have q5 : (((fneg .f32 (bF a c), 0, 0), (1073741824, 0, 0)) : RayD) = bY a c := rfl
  have q6 : ([(0, 0, 0, [bR a])] : ShapeD) = bS a := rfl
  rw [q3, q1, q2, q4, q5, q6, o1, o2, o5, f1]
  simp only [Bool.and_self, cond_true]
  rw [hm]
  simp only
  rw [o3, o4, o6, o7, o8, o9]
  exact h

end Go.Proofs.Ytfhpmcdbfebflaa

