/- Floats as rational numbers: square roots. -/
import Derived.Test.YtfdalaakechldaaFlG
set_option linter.unusedVariables false
set_option linter.unusedSimpArgs false
namespace Go.Ev
open Ieee

theorem sq_le {a b : Rat} (ha : 0 ≤ a) (h : a ≤ b) : a * a ≤ b * b := by
  have h1 := Rat.mul_le_mul_of_nonneg_left h ha
  have h2 := Rat.mul_le_mul_of_nonneg_right h (show 0 ≤ b by grind)
  grind
theorem sq_lt {a b : Rat} (ha : 0 ≤ a) (h : a < b) : a * a < b * b := by
  have h1 := Rat.mul_le_mul_of_nonneg_left (Rat.le_of_lt h) ha
  have h2 := Rat.mul_lt_mul_of_pos_right h (show 0 < b by grind)
  grind
theorem le_of_sq {a b : Rat} (hb : 0 ≤ b) (h : a * a ≤ b * b) : a ≤ b := by
  refine Rat.not_lt.1 fun c => ?_
  have := sq_lt hb c
  grind
theorem lt_of_sq {a b : Rat} (hb : 0 ≤ b) (h : a * a < b * b) : a < b := by
  refine Rat.not_le.1 fun c => ?_
  have := sq_le hb c
  grind

namespace Fl
/-- A rung is nearest to a number's square root. -/
structure SNear (f : Format) (q : Rat) (r : Nat) : Prop where
  inf : r ≤ f.infRung
  lo : ∀ t, t ≤ f.infRung → mg f t * mg f t ≤ q → t ≤ r
  hi : ∀ t, q ≤ mg f t * mg f t → r ≤ t
  lt : ∀ t, t < f.infRung → 4 * q < (mg f t + mg f (t + 1)) * (mg f t + mg f (t + 1)) → r ≤ t
  gt : ∀ t, t < f.infRung → (mg f t + mg f (t + 1)) * (mg f t + mg f (t + 1)) < 4 * q → t + 1 ≤ r
  tie : ∀ t, t < f.infRung → 4 * q = (mg f t + mg f (t + 1)) * (mg f t + mg f (t + 1)) → r = t + t % 2
theorem SNear.of {f : Format} {x q : Rat} {r : Nat} (h : Near f x r) (hx : 0 ≤ x) (e : q = x * x) : SNear f q r := by
  have nn := mg_nonneg f
  subst e
  refine ⟨h.inf, fun t ht c => h.lo t ht (le_of_sq hx c), fun t c => h.hi t (le_of_sq (nn t) c), fun t ht c => h.lt t ht ?_, fun t ht c => h.gt t ht ?_, fun t ht c => h.tie t ht ?_⟩
  · have a1 := nn t
    have a2 := nn (t + 1)
    exact lt_of_sq (by grind) (by grind)
  · exact lt_of_sq (by grind) (by grind)
  · have a1 := nn t
    have a2 := nn (t + 1)
    exact Rat.le_antisymm (le_of_sq (by grind) (by grind)) (le_of_sq (by grind) (by grind))
theorem SNear.between {f : Format} {x q lo hi : Rat} {r : Nat} (h : Near f x r) (h0 : 0 ≤ lo) (h1 : ∀ t, mg f t ≤ lo ∨ hi ≤ mg f t) (h2 : ∀ t, mg f t + mg f (t + 1) ≤ 2 * lo ∨ 2 * hi ≤ mg f t + mg f (t + 1))
    (x1 : lo < x) (x2 : x < hi) (a1 : lo * lo < q) (a2 : q < hi * hi) : SNear f q r := by
  have nn := mg_nonneg f
  have hhi : 0 ≤ hi := by grind
  refine ⟨h.inf, fun t ht e => h.lo t ht ?_, fun t e => h.hi t ?_, fun t ht e => h.lt t ht ?_, fun t ht e => h.gt t ht ?_, fun t ht e => ?_⟩
  · rcases h1 t with g | g
    · grind
    · have := sq_le hhi g; grind
  · rcases h1 t with g | g
    · have := sq_le (nn t) g; grind
    · grind
  · have b1 := nn t
    have b2 := nn (t + 1)
    rcases h2 t with g | g
    · have := sq_le (by grind) g; grind
    · grind
  · rcases h2 t with g | g
    · grind
    · have := sq_le (show 0 ≤ 2 * hi by grind) g; grind
  · have b1 := nn t
    have b2 := nn (t + 1)
    rcases h2 t with g | g
    · have := sq_le (by grind) g; grind
    · have := sq_le (show 0 ≤ 2 * hi by grind) g; grind
theorem SNear.mono {f : Format} {a b : Rat} {r s : Nat} (h1 : SNear f a r) (h2 : SNear f b s) (h : a ≤ b) : r ≤ s := by
  have nn := mg_nonneg f
  refine Nat.le_of_not_lt fun hlt => ?_
  have i1 := h1.inf
  have x1 : b < mg f (s + 1) * mg f (s + 1) := Rat.not_le.1 fun hc => by have := h2.lo _ (by omega) hc; omega
  have x2 : mg f (r - 1) * mg f (r - 1) < a := Rat.not_le.1 fun hc => by have := h1.hi _ hc; omega
  have x3 : mg f (r - 1) < mg f (s + 1) := lt_of_sq (nn _) (by grind)
  have x4 := lt_of_mg f x3
  have e : r = s + 1 := by omega
  subst e
  have y1 : ¬ 4 * a < (mg f s + mg f (s + 1)) * (mg f s + mg f (s + 1)) := fun hc => by have := h1.lt s (by omega) hc; omega
  have y2 : ¬ (mg f s + mg f (s + 1)) * (mg f s + mg f (s + 1)) < 4 * b := fun hc => by have := h2.gt s (by omega) hc; omega
  have z1 := h1.tie s (by omega) (by grind)
  have z2 := h2.tie s (by omega) (by grind)
  omega

theorem rootFrom_spec (n : Nat) : ∀ (todo root : Nat), root * root ≤ n → n < (root + 2 ^ todo) * (root + 2 ^ todo) →
    Datum.rootFrom n todo root * Datum.rootFrom n todo root ≤ n ∧ n < (Datum.rootFrom n todo root + 1) * (Datum.rootFrom n todo root + 1)
  | 0, root, h1, h2 => ⟨h1, h2⟩
  | todo + 1, root, h1, h2 => by
    unfold Datum.rootFrom
    simp only [Nat.shiftLeft_eq, Nat.one_mul]
    have e : 2 ^ (todo + 1) = 2 ^ todo + 2 ^ todo := by rw [Nat.pow_succ]; omega
    rw [e, ← Nat.add_assoc] at h2
    by_cases h : (root + 2 ^ todo) * (root + 2 ^ todo) ≤ n
    · rw [if_pos h]; exact rootFrom_spec n todo _ h h2
    · rw [if_neg h]; exact rootFrom_spec n todo _ h1 (by omega)
theorem root_spec (n : Nat) : Datum.rootFrom n (n.log2 / 2 + 1) 0 * Datum.rootFrom n (n.log2 / 2 + 1) 0 ≤ n ∧ n < (Datum.rootFrom n (n.log2 / 2 + 1) 0 + 1) * (Datum.rootFrom n (n.log2 / 2 + 1) 0 + 1) := by
  refine rootFrom_spec n _ 0 (Nat.zero_le _) ?_
  rw [Nat.zero_add, ← Nat.pow_add]
  have h1 : n < 2 ^ (n.log2 + 1) := Nat.lt_log2_self
  exact Nat.lt_of_lt_of_le h1 (Nat.pow_le_pow_right (by omega) (by omega))

theorem pw_sq (e : Int) : pw e * pw e = pw (2 * e) := by rw [← pw_add]; congr 1; omega

/-- The root of a positive word. -/
theorem fsqrt_pos {k : FloatKind} {x : Nat} (hx : fin k x = true) (h0 : 0 < ev k x) : ∃ r, fsqrt k x = k.format.word false r ∧ SNear k.format (ev k x) r := by
  obtain ⟨m, i, h1, h2⟩ := read_fin hx
  have hs : sg k x = false := by
    cases e : sg k x with
    | false => rfl
    | true =>
      unfold ev at h0
      rw [e] at h0
      have := mg_nonneg k.format (rung k x)
      simp only [sgd, cond_true] at h0
      grind
  have hev : ev k x = (m : Rat) * pw i := by
    unfold ev
    rw [hs, h2]; rfl
  have hm : m ≠ 0 := by
    intro e
    subst e
    rw [hev] at h0
    have : ((0 : Nat) : Rat) * pw i = 0 := Rat.zero_mul _
    grind
  rw [hs] at h1
  unfold fsqrt Format.sqrt
  rw [h1]
  simp only [Datum.root, if_neg hm, Bool.false_eq_true, if_false, Option.map_some, orNan, Format.write]
  generalize hd : k.format.fractionBits + 2 = d
  generalize hmore : 2 * d - m.log2 + ((i - ((2 * d - m.log2 : Nat) : Int)) % 2).toNat = more
  have hev2 : (i - more) % 2 = 0 := by omega
  obtain ⟨j, hj⟩ : ∃ j : Int, i - more = 2 * j := ⟨(i - more) / 2, by omega⟩
  have hj2 : (i - (more : Int)) / 2 = j := by omega
  rw [hj2, Nat.shiftLeft_eq]
  obtain ⟨w1, w2⟩ := root_spec (m * 2 ^ more)
  have hlog : 2 ^ (2 * d) ≤ m * 2 ^ more := by
    have a1 : 2 ^ m.log2 ≤ m := Nat.log2_self_le hm
    have a2 : 2 ^ (2 * d) ≤ 2 ^ (m.log2 + more) := Nat.pow_le_pow_right (by omega) (by omega)
    rw [Nat.pow_add] at a2
    exact Nat.le_trans a2 (Nat.mul_le_mul_right _ a1)
  -- the number in units
  have hq : ev k x = ((m * 2 ^ more : Nat) : Rat) * pw (2 * j) := by
    rw [hev, Rat.natCast_mul, ← pw_nat, Rat.mul_assoc, ← pw_add]
    congr 2
    omega
  generalize hnn : m * 2 ^ more = n at *
  generalize Datum.rootFrom n (n.log2 / 2 + 1) 0 = w at *
  have hwd : 2 ^ d ≤ w := by
    refine Nat.le_of_not_lt fun c => ?_
    have : (w + 1) * (w + 1) ≤ 2 ^ d * 2 ^ d := Nat.mul_le_mul c c
    rw [← Nat.pow_add, show d + d = 2 * d by omega] at this
    omega
  refine ⟨_, nearest_eq _ _ _ _, ?_⟩
  have hu := pw_pos (j - 1)
  have hsq : pw (2 * j) = (2 * pw (j - 1)) * (2 * pw (j - 1)) := by
    rw [← pw_succ, pw_sq]; congr 1; omega
  have c2 : ∀ a : Nat, ((2 * a : Nat) : Rat) = 2 * (a : Rat) := fun a => by rw [Rat.natCast_mul]; rfl
  have hw0 : (0 : Rat) ≤ (w : Rat) := Rat.natCast_nonneg
  have hwu := Rat.mul_nonneg hw0 (Rat.le_of_lt hu)
  by_cases hr : w * w = n
  · have hb : (w * w != n).toNat = 0 := by rw [hr, bne_self_eq_false]; rfl
    rw [hb, Nat.add_zero]
    refine SNear.of (rg_near (even_k k) (2 * w) (j - 1)) ?_ ?_
    · exact Rat.mul_nonneg Rat.natCast_nonneg (Rat.le_of_lt hu)
    · rw [hq, hsq, ← hr, Rat.natCast_mul, c2]
      grind
  · have hb : (w * w != n).toNat = 1 := by rw [bne_iff_ne.2 hr]; rfl
    rw [hb]
    have hS : 2 ^ (k.format.fractionBits + 2) ≤ 2 * w + 1 := by rw [hd]; omega
    obtain ⟨lo, hi, g0, g1, g2, t1, t2⟩ := sticky_gap (f := k.format) (S := 2 * w + 1) (g := j - 1) hS (by omega)
    have cS : ((2 * w + 1 : Nat) : Rat) = 2 * (w : Rat) + 1 := by rw [Rat.natCast_add, c2]; rfl
    rw [cS] at g1 g2
    have hlt : w * w < n := Nat.lt_of_le_of_ne w1 hr
    have n1 : (w : Rat) * (w : Rat) < (n : Rat) := by rw [← Rat.natCast_mul]; exact Rat.natCast_lt_natCast.2 hlt
    have n2 : (n : Rat) < ((w : Rat) + 1) * ((w : Rat) + 1) := by
      have := Rat.natCast_lt_natCast.2 w2
      rw [Rat.natCast_mul, Rat.natCast_add] at this
      exact this
    have p2 : 0 < pw (2 * j) := pw_pos _
    refine SNear.between (x := ((2 * w + 1 : Nat) : Rat) * pw (j - 1)) (rg_near (even_k k) (2 * w + 1) (j - 1)) g0 t1 t2 ?_ ?_ ?_ ?_
    · rw [cS]; grind
    · rw [cS]; grind
    · have a1 := sq_le g0 (show lo ≤ 2 * ((w : Rat) * pw (j - 1)) by grind)
      have a2 := Rat.mul_lt_mul_of_pos_right n1 p2
      rw [← hq, hsq] at a2
      grind
    · have a1 := sq_le (show (0 : Rat) ≤ 2 * (((w : Rat) + 1) * pw (j - 1)) by grind) (show 2 * (((w : Rat) + 1) * pw (j - 1)) ≤ hi by grind)
      have a2 := Rat.mul_lt_mul_of_pos_right n2 p2
      rw [← hq, hsq] at a2
      grind

/-- The root of a word that is not positive. -/
theorem fsqrt_neg {k : FloatKind} {x : Nat} (hx : fin k x = true) (h0 : ev k x < 0) : fsqrt k x = qnan k := by
  obtain ⟨m, i, h1, h2⟩ := read_fin hx
  have nn := mg_nonneg k.format (rung k x)
  have hs : sg k x = true := by
    cases e : sg k x with
    | true => rfl
    | false =>
      unfold ev at h0
      rw [e] at h0
      simp only [sgd, cond_false] at h0
      grind
  have hm : m ≠ 0 := by
    intro e
    subst e
    have : ((0 : Nat) : Rat) * pw i = 0 := Rat.zero_mul _
    unfold ev at h0
    rw [hs, ← h2, this] at h0
    exact absurd h0 (by decide)
  rw [hs] at h1
  unfold fsqrt Format.sqrt
  rw [h1]
  simp only [Datum.root, if_neg hm, if_true, Option.map_none, orNan]
theorem fsqrt_zero {k : FloatKind} {x : Nat} (hx : fin k x = true) (h0 : ev k x = 0) : fsqrt k x = k.format.word (sg k x) 0 := by
  obtain ⟨m, i, h1, h2⟩ := read_fin hx
  have nn := mg_nonneg k.format (rung k x)
  have hm : m = 0 := by
    have : (m : Rat) * pw i = 0 := by
      rw [h2]
      unfold ev at h0
      cases e : sg k x <;> rw [e] at h0 <;> simp only [sgd, cond_true, cond_false] at h0 <;> grind
    rcases Rat.mul_eq_zero.1 this with h | h
    · exact_mod_cast h
    · have := pw_pos i; grind
  subst hm
  unfold fsqrt Format.sqrt
  rw [h1]
  simp only [Datum.root, if_true, Option.map_some, orNan, Format.write, Format.nearest]
theorem fsqrt_nan {k : FloatKind} {x : Nat} (hx : nan k x = true) : fsqrt k x = qnan k := by
  obtain ⟨s, t, e⟩ := read_nan hx
  unfold fsqrt Format.sqrt
  rw [e]; rfl
theorem fsqrt_inf {k : FloatKind} {x : Nat} (hx : rung k x = infOf k) : fsqrt k x = bif sg k x then qnan k else k.format.word false (infOf k) := by
  unfold fsqrt Format.sqrt
  rw [read_inf hx]
  cases sg k x
  · simp only [Datum.root, Bool.false_eq_true, if_false, Option.map_some, orNan, Format.write, cond_false, inf_eq]
  · simp only [Datum.root, if_true, Option.map_none, orNan, cond_true]

/-! ### the root of a 32-bit number, narrowed -/
def rootN (x : Nat) : Nat := narrow (fsqrt .f64 (widen x))
theorem pw64_rung : ∃ t, t < infOf .f64 ∧ mg FloatKind.f64.format t = pw 64 := by
  obtain ⟨t, ht⟩ := rep_rung FloatKind.f64.format 1138 1 (by decide)
  have e : ((1 : Nat) : Rat) * pw (FloatKind.f64.format.leastPlace + (1138 : Nat)) = pw 64 := Rat.one_mul _
  rw [e] at ht
  refine ⟨t, lt_of_mg FloatKind.f64.format ?_, ht⟩
  rw [ht, mg_inf]
  show pw 64 < pw 1024
  have h1 := pw_succ 64
  have h2 := pw_pos 64
  have h3 : pw (64 + 1) ≤ pw 1024 := pw_le (by omega)
  grind
theorem root_fin {x : Nat} {q : Rat} (h : Ex .f32 x q) (h0 : 0 < q) : ∃ r, Ex .f64 (fsqrt .f64 (widen x)) (mg FloatKind.f64.format r) ∧ fsqrt .f64 (widen x) = FloatKind.f64.format.word false r ∧ SNear FloatKind.f64.format q r ∧ Rnd .f32 (mg FloatKind.f64.format r) (rootN x) ∧ ovf (fsqrt .f64 (widen x)) = false ∧ fin .f32 (rootN x) = true := by
  have W := widen_ex h
  obtain ⟨r, h1, h2⟩ := fsqrt_pos W.f (by rw [W.e]; exact h0)
  rw [W.e] at h2
  obtain ⟨t, t1, t2⟩ := pw64_rung
  have hq : q < pw 128 := by
    have a := mg_lt FloatKind.f32.format (fin_iff.1 h.f)
    have : mg FloatKind.f32.format (infOf .f32) = pw 128 := mg_inf .f32
    rw [this] at a
    have e := h.e
    unfold ev at e
    have nn := mg_nonneg FloatKind.f32.format (rung .f32 x)
    cases s : sg .f32 x <;> rw [s] at e <;> simp only [sgd, cond_true, cond_false] at e <;> grind
  have hr : r ≤ t := h2.hi t (by rw [t2, pw_sq]; show q ≤ pw 128; grind)
  have w := word_sg (k := .f64) (s := false) (r := r) (by omega)
  have E : Ex .f64 (fsqrt .f64 (widen x)) (mg FloatKind.f64.format r) := by
    rw [h1]
    refine ⟨fin_iff.2 (by rw [w.2.1]; omega), w.2.2, ?_⟩
    rw [ev_word (by omega)]; rfl
  have N := narrow_rnd E
  have hf : fin .f32 (rootN x) = true := by
    have r64 : Rep .f32 (pw 64) := by
      have := rep_nat (k := .f32) (n := 1) (e := 64) (by decide) (by decide) (by
        rw [mg_inf]
        show ((1 : Nat) : Rat) * pw 64 < pw 128
        have h1 := pw_succ 64
        have h2 := pw_pos 64
        have h3 : pw (64 + 1) ≤ pw 128 := pw_le (by omega)
        have : ((1 : Nat) : Rat) = 1 := rfl
        grind)
      have e : ((1 : Nat) : Rat) * pw 64 = pw 64 := Rat.one_mul _
      rwa [e] at this
    obtain ⟨w64, f1, f2, f3⟩ := r64
    have le : ev .f32 (rootN x) ≤ ev .f32 w64 := N.le (fin_nan f1) f2 (by rw [f3, ← t2]; exact mg_le _ hr)
    have ge : ev .f32 0 ≤ ev .f32 (rootN x) := N.ge (by decide) (by decide) (by rw [(ev_zero (by decide)).2 (.inl rfl)]; exact mg_nonneg _ _)
    have p1 := ev_le_iff.1 le
    have p2 := ev_le_iff.1 ge
    have p3 := (fin_pos (fin_nan f1)).1 f1
    have p4 : pos .f32 0 = 0 := by decide +kernel
    exact (fin_pos N.nan).2 (by show _ < pos .f32 (rootN x) ∧ pos .f32 (rootN x) < _; omega)
  exact ⟨r, E, h1, h2, N, ovf_false E hf, hf⟩
theorem ovf_qnan : ovf (qnan .f64) = false := by decide +kernel
/-- A root is never too great. -/
theorem root_ovf {x : Nat} (hl : x < 2 * signOf .f32) (hc : canon .f32 x = x) : ovf (fsqrt .f64 (widen x)) = false := by
  cases hn : nan .f32 x with
  | true =>
    rw [canon_nan hn] at hc
    subst hc
    decide +kernel
  | false =>
    by_cases hf : fin .f32 x = true
    · have X : Ex .f32 x (ev .f32 x) := ⟨hf, hl, rfl⟩
      have W := widen_ex X
      by_cases h1 : 0 < ev .f32 x
      · exact (root_fin X h1).choose_spec.2.2.2.2.1
      · by_cases h2 : ev .f32 x < 0
        · rw [fsqrt_neg W.f (by rw [W.e]; exact h2)]; exact ovf_qnan
        · have h3 : ev .f32 x = 0 := by grind
          rw [fsqrt_zero W.f (by rw [W.e]; exact h3)]
          cases sg .f64 (widen x) <;> decide +kernel
    · have hr := nan_false.1 hn
      have hri : rung .f32 x = infOf .f32 := by
        have : ¬ rung .f32 x < infOf .f32 := fun c => hf (fin_iff.2 c)
        omega
      rcases x_cases hl with ⟨_, b⟩ | ⟨_, b⟩
      · rw [hri] at b; subst b; decide +kernel
      · rw [hri] at b; subst b; decide +kernel

/-- Roots of numbers that are not negative: a root is not negative, and of the greater number not less. -/
theorem root_ex {x : Nat} {q : Rat} (h : Ex .f32 x q) (h0 : 0 ≤ q) : fin .f32 (rootN x) = true ∧ rootN x < 2 * signOf .f32 ∧ 0 ≤ ev .f32 (rootN x) := by
  by_cases h1 : 0 < q
  · obtain ⟨r, _, _, _, N, _, f⟩ := root_fin h h1
    refine ⟨f, N.lt2, ?_⟩
    have := N.ge (w := 0) (by decide) (by decide) (by rw [(ev_zero (by decide)).2 (.inl rfl)]; exact mg_nonneg _ _)
    rwa [(ev_zero (by decide)).2 (.inl rfl)] at this
  · have h2 : ev .f32 x = 0 := by rw [h.e]; grind
    have z : ∀ b, b = 0 ∨ b = 2147483648 → fin .f32 (rootN b) = true ∧ rootN b < 2 * signOf .f32 ∧ (rootN b = 0 ∨ rootN b = 2147483648) := by
      rintro b (rfl | rfl) <;> decide +kernel
    obtain ⟨a1, a2, a3⟩ := z x ((ev_zero h.l).1 h2)
    refine ⟨a1, a2, ?_⟩
    rw [(ev_zero a2).2 a3]
    grind
theorem root_mono {x y : Nat} {p q : Rat} (hx : Ex .f32 x p) (hy : Ex .f32 y q) (h0 : 0 ≤ p) (h : p ≤ q) : ev .f32 (rootN x) ≤ ev .f32 (rootN y) := by
  by_cases h1 : 0 < p
  · obtain ⟨r, _, _, n1, N1, _, _⟩ := root_fin hx h1
    obtain ⟨s, _, _, n2, N2, _, _⟩ := root_fin hy (by grind)
    exact N1.mono N2 (mg_le _ (n1.mono n2 h))
  · have h2 : ev .f32 x = 0 := by rw [hx.e]; grind
    have z : ∀ b, b = 0 ∨ b = 2147483648 → rootN b < 2 * signOf .f32 ∧ (rootN b = 0 ∨ rootN b = 2147483648) := by
      rintro b (rfl | rfl) <;> decide +kernel
    obtain ⟨a2, a3⟩ := z x ((ev_zero hx.l).1 h2)
    rw [(ev_zero a2).2 a3]
    exact (root_ex hy (by grind)).2.2

end Fl
end Go.Ev
