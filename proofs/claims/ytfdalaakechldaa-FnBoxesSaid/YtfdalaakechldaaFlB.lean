/- Floats as rational numbers: the nearest rung. -/
import Derived.Test.YtfdalaakechldaaFlA
set_option linter.unusedVariables false
namespace Go.Ev
open Ieee

namespace Fl
variable (f : Format)

theorem cast_pred {c : Nat} (h : c ≠ 0) : ((c - 1 : Nat) : Rat) = (c : Rat) - 1 := by
  have : ((c - 1 + 1 : Nat) : Rat) = ((c - 1 : Nat) : Rat) + 1 := by rw [Rat.natCast_add]; rfl
  rw [show c - 1 + 1 = c by omega] at this
  grind

/-- A rung is nearest to a number; between two, the even one. -/
structure Near (a : Rat) (r : Nat) : Prop where
  inf : r ≤ f.infRung
  lo : ∀ t, t ≤ f.infRung → mg f t ≤ a → t ≤ r
  hi : ∀ t, a ≤ mg f t → r ≤ t
  lt : ∀ t, t < f.infRung → 2 * a < mg f t + mg f (t + 1) → r ≤ t
  gt : ∀ t, t < f.infRung → mg f t + mg f (t + 1) < 2 * a → t + 1 ≤ r
  tie : ∀ t, t < f.infRung → 2 * a = mg f t + mg f (t + 1) → r = t + t % 2

variable {f}
theorem Near.mono {a b : Rat} {r s : Nat} (h1 : Near f a r) (h2 : Near f b s) (h : a ≤ b) : r ≤ s := by
  refine Nat.le_of_not_lt fun hlt => ?_
  have i1 := h1.inf
  have x1 : b < mg f (s + 1) := Rat.not_le.1 fun hc => by have := h2.lo _ (by omega) hc; omega
  have x2 : mg f (r - 1) < a := Rat.not_le.1 fun hc => by have := h1.hi _ hc; omega
  have x3 : mg f (r - 1) < mg f (s + 1) := by grind
  have x4 := lt_of_mg f x3
  have e : r = s + 1 := by omega
  subst e
  have y1 : ¬ 2 * a < mg f s + mg f (s + 1) := fun hc => by have := h1.lt s (by omega) hc; omega
  have y2 : ¬ mg f s + mg f (s + 1) < 2 * b := fun hc => by have := h2.gt s (by omega) hc; omega
  have z1 := h1.tie s (by omega) (by grind)
  have z2 := h2.tie s (by omega) (by grind)
  omega
theorem Near.uniq {a : Rat} {r s : Nat} (h1 : Near f a r) (h2 : Near f a s) : r = s :=
  Nat.le_antisymm (h1.mono h2 (by grind)) (h2.mono h1 (by grind))
theorem Near.exact {a : Rat} {r t : Nat} (h : Near f a r) (e : a = mg f t) (ht : t ≤ f.infRung) : r = t :=
  Nat.le_antisymm (h.hi t (by grind)) (h.lo t ht (by grind))

theorem rg_le_inf (m : Nat) (e : Int) : rg f m e ≤ f.infRung := by
  unfold rg
  split
  · omega
  · exact Nat.min_le_right _ _

theorem rg_near (hB : f.binade % 2 = 0) (m : Nat) (e : Int) : Near f ((m : Rat) * pw e) (rg f m e) := by
  by_cases hm : m = 0
  · subst hm
    have h0 : ((0 : Nat) : Rat) * pw e = 0 := Rat.zero_mul _
    have hr : rg f 0 e = 0 := by unfold rg; rw [if_pos rfl]
    rw [h0, hr]
    have pos : ∀ t, 0 < mg f (t + 1) := fun t => by rw [← mg_zero f]; exact mg_lt f (by omega)
    refine ⟨by omega, fun t _ h => ?_, fun t _ => by omega, fun t _ _ => by omega, fun t _ h => ?_, fun t _ h => ?_⟩
    · rw [← mg_zero f] at h; have := le_of_mg f h; omega
    · have := pos t; have := mg_nonneg f t; grind
    · have := pos t; have := mg_nonneg f t; grind
  obtain ⟨p, c, e1, h1, h2, h3, h4, h5, h6, h7⟩ := rg_scale f (e := e) hm
  have hinf := rg_le_inf (f := f) m e
  generalize rg f m e = r at *
  generalize (m : Rat) * pw e = a at *
  have hu := pw_pos (f.leastPlace + p)
  have b0 := B0 f
  have m1 : mg f (p * f.binade + c) = (c : Rat) * pw (f.leastPlace + p) := mg_at f p c h2 h1
  have eB : p * f.binade % 2 = 0 := by rw [Nat.mul_mod, hB]; simp
  -- below the rung
  have dn : ∀ t, t + 1 ≤ p * f.binade + c → mg f t + mg f (t + 1) ≤ 2 * a ∧ (mg f t + mg f (t + 1) = 2 * a → p * f.binade + c = t + 1 ∧ c % 2 = 0) := by
    intro t ht
    have m2 : mg f (t + 1) ≤ mg f (p * f.binade + c) := mg_le f ht
    have m5 : mg f t < mg f (t + 1) := mg_lt f (by omega)
    by_cases hc0 : c = 0
    · have : p = 0 := by omega
      subst this; subst hc0; omega
    · have hcm := cast_pred hc0
      by_cases hc : p = 0 ∨ f.binade ≤ c - 1
      · have m3 : mg f (p * f.binade + (c - 1)) = ((c : Rat) - 1) * pw (f.leastPlace + p) := by rw [mg_at f p (c - 1) (by omega) hc, hcm]
        have m4 : mg f t ≤ mg f (p * f.binade + (c - 1)) := mg_le f (by omega)
        refine ⟨by grind, fun he => ?_⟩
        have := mg_inj f (show mg f (t + 1) = mg f (p * f.binade + c) by grind)
        refine ⟨by omega, h7 (by right; grind)⟩
      · have hcB : c = f.binade := by omega
        rcases h3 with h3 | h3
        · omega
        · rw [← hcB] at h3
          exact ⟨by grind, fun he => by grind⟩
  -- above it
  have up : ∀ t, p * f.binade + c ≤ t → 2 * a ≤ mg f t + mg f (t + 1) ∧ (2 * a = mg f t + mg f (t + 1) → p * f.binade + c = t ∧ c % 2 = 0) := by
    intro t ht
    have m2 : mg f (p * f.binade + c) ≤ mg f t := mg_le f ht
    have m5 : mg f t < mg f (t + 1) := mg_lt f (by omega)
    by_cases hc : c + 1 ≤ 2 * f.binade
    · have m3 : mg f (p * f.binade + (c + 1)) = ((c : Rat) + 1) * pw (f.leastPlace + p) := by
        rw [mg_at f p (c + 1) hc (by omega), Rat.natCast_add]; rfl
      have m4 : mg f (p * f.binade + (c + 1)) ≤ mg f (t + 1) := mg_le f (by omega)
      refine ⟨by grind, fun he => ?_⟩
      have := mg_inj f (show mg f (p * f.binade + c) = mg f t by grind)
      refine ⟨by omega, h7 (by left; grind)⟩
    · have hcB : c = 2 * f.binade := by omega
      rw [hcB, Rat.natCast_mul] at m1
      have : ((2 : Nat) : Rat) = 2 := rfl
      exact ⟨by grind, fun he => by grind⟩
  have lo : ∀ t, t ≤ f.infRung → mg f t ≤ a → t ≤ r := by
    intro t ht h
    rw [e1]
    refine Nat.le_min.2 ⟨Nat.le_of_not_lt fun hlt => ?_, ht⟩
    have := (up (t - 1) (by omega)).1
    rw [show t - 1 + 1 = t by omega] at this
    have : mg f (t - 1) < mg f t := mg_lt f (by omega)
    grind
  have hi : ∀ t, a ≤ mg f t → r ≤ t := by
    intro t h
    rw [e1]
    refine Nat.le_trans (Nat.min_le_left _ _) (Nat.le_of_not_lt fun hlt => ?_)
    have := (dn t (by omega)).1
    have : mg f t < mg f (t + 1) := mg_lt f (by omega)
    grind
  refine ⟨hinf, lo, hi, fun t ht h => ?_, fun t ht h => ?_, fun t ht h => ?_⟩
  · refine Nat.le_of_not_lt fun hlt => ?_
    have := (dn t (by omega)).1
    grind
  · refine Nat.le_of_not_lt fun hlt => ?_
    have := (up t (by omega)).1
    grind
  · have m5 : mg f t < mg f (t + 1) := mg_lt f (by omega)
    have r1 := lo t (by omega) (by grind)
    have r2 := hi (t + 1) (by grind)
    by_cases e2 : r = t + 1
    · have := (dn t (by omega)).2 (by grind)
      omega
    · have := (up t (by omega)).2 (by grind)
      omega

end Fl
end Go.Ev
