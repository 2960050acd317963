/- Floats as rational numbers: the order of words, the next word, and between two words. -/
import Derived.Test.YtfdalaakechldaaFlE
set_option linter.unusedVariables false
set_option linter.unusedSimpArgs false
namespace Go.Ev
open Ieee

namespace Fl
variable {k : FloatKind} {x y : Nat}

/-- The place of a word among all words that are numbers. -/
def pos (k : FloatKind) (x : Nat) : Int := bif sg k x then -(rung k x : Int) else (rung k x : Int)
theorem ev_lt_iff : ev k x < ev k y ↔ pos k x < pos k y := by
  have nx := mg_nonneg k.format (rung k x)
  have ny := mg_nonneg k.format (rung k y)
  unfold ev pos
  cases s1 : sg k x <;> cases s2 : sg k y <;> simp only [sgd, cond_true, cond_false]
  · constructor
    · intro h; have := lt_of_mg _ h; omega
    · intro h; exact mg_lt _ (by omega)
  · constructor
    · intro h; grind
    · intro h; omega
  · constructor
    · intro h
      by_cases h1 : rung k x = 0
      · by_cases h2 : rung k y = 0
        · rw [h1, h2, mg_zero] at h; grind
        · omega
      · omega
    · intro h
      have z := mg_zero k.format
      by_cases h1 : rung k x = 0
      · have := mg_lt k.format (show 0 < rung k y by omega)
        grind
      · have := mg_lt k.format (show 0 < rung k x by omega)
        grind
  · constructor
    · intro h
      have := lt_of_mg k.format (show mg k.format (rung k y) < mg k.format (rung k x) by grind)
      omega
    · intro h
      have := mg_lt k.format (show rung k y < rung k x by omega)
      grind
theorem ev_eq_iff : ev k x = ev k y ↔ pos k x = pos k y := by
  have h1 := @ev_lt_iff k x y
  have h2 := @ev_lt_iff k y x
  constructor
  · intro h
    have := fun c => h1.2 c
    have := fun c => h2.2 c
    have a : ¬ pos k x < pos k y := fun c => by have := h1.2 c; grind
    have b : ¬ pos k y < pos k x := fun c => by have := h2.2 c; grind
    omega
  · intro h
    have a : ¬ ev k x < ev k y := fun c => by have := h1.1 c; omega
    have b : ¬ ev k y < ev k x := fun c => by have := h2.1 c; omega
    grind
theorem ev_le_iff : ev k x ≤ ev k y ↔ pos k x ≤ pos k y := by
  have h2 := @ev_lt_iff k y x
  rw [← Rat.not_lt, h2]
  omega
section
variable (hx : nan k x = false) (hy : nan k y = false)
include hx hy
theorem flt_pos : flt k x y = decide (pos k x < pos k y) := by rw [flt_ev hx hy]; exact decide_eq_decide.2 ev_lt_iff
theorem feq_pos : feq k x y = decide (pos k x = pos k y) := by rw [feq_ev hx hy]; exact decide_eq_decide.2 ev_eq_iff
theorem fle_pos : fle k x y = decide (pos k x ≤ pos k y) := by rw [fle_ev hx hy]; exact decide_eq_decide.2 ev_le_iff
theorem fgt_pos : fgt k x y = decide (pos k y < pos k x) := by rw [fgt_ev hx hy]; exact decide_eq_decide.2 ev_lt_iff
theorem fge_pos : fge k x y = decide (pos k y ≤ pos k x) := by rw [fge_ev hx hy]; exact decide_eq_decide.2 ev_le_iff
end

theorem pos_word {s : Bool} {r : Nat} (h : r ≤ infOf k) : pos k (k.format.word s r) = bif s then -(r : Int) else (r : Int) := by
  obtain ⟨h1, h2, _⟩ := word_sg (k := k) (s := s) h
  unfold pos
  rw [h1, h2]
theorem pos_neg (hx : nan k x = false) (hl : x < 2 * signOf k) : pos k (fneg k x) = -pos k x := by
  rw [fneg_word hx hl, pos_word (nan_false.1 hx)]
  unfold pos
  cases sg k x <;> simp
theorem pos_range (hx : nan k x = false) : -(infOf k : Int) ≤ pos k x ∧ pos k x ≤ infOf k := by
  have := nan_false.1 hx
  unfold pos
  cases sg k x <;> simp only [cond_true, cond_false] <;> omega
theorem fin_pos (hx : nan k x = false) : fin k x = true ↔ -(infOf k : Int) < pos k x ∧ pos k x < infOf k := by
  have := nan_false.1 hx
  rw [fin_iff]
  unfold pos
  cases sg k x <;> simp only [cond_true, cond_false] <;> omega

theorem nbeq_t {a b : Nat} (h : a = b) : Nat.beq a b = true := by rw [Nat.beq_eq]; exact h
theorem nbeq_f {a b : Nat} (h : a ≠ b) : Nat.beq a b = false := by
  cases e : Nat.beq a b with
  | false => rfl
  | true => exact absurd (Nat.eq_of_beq_eq_true e) h
/-- The next greater word. -/
def upN (k : FloatKind) (x : Nat) : Nat :=
  bif nan k x || Nat.beq x (infOf k) then x else bif Nat.beq x 0 || Nat.beq x (signOf k) then 1 else bif sg k x then x - 1 else x + 1
theorem upN_nan (h : nan k x = true) : upN k x = x := by unfold upN; rw [h]; rfl
theorem x_cases (hl : x < 2 * signOf k) : (sg k x = false ∧ x = rung k x) ∨ (sg k x = true ∧ x = signOf k + rung k x) := by
  have := word_of hl
  unfold Format.word at this
  rw [sign_eq] at this
  cases h : sg k x <;> simp only [h, Bool.false_eq_true, if_false, if_true] at this
  · exact .inl ⟨rfl, this.symm⟩
  · exact .inr ⟨rfl, this.symm⟩
/-- What the next word is, and where. -/
theorem upN_spec (hx : nan k x = false) (hl : x < 2 * signOf k) (hi : pos k x ≠ infOf k) :
    nan k (upN k x) = false ∧ upN k x < 2 * signOf k ∧ pos k (upN k x) = pos k x + 1 := by
  have hr := nan_false.1 hx
  have hs := inf_lt_sign k
  have i0 : 1 ≤ infOf k := by cases k <;> decide
  have w1 := word_sg (k := k) (s := false) (r := 1) i0
  have e1 : k.format.word false 1 = 1 := rfl
  have hxi : Nat.beq x (infOf k) = false := by
    cases h : Nat.beq x (infOf k) with
    | false => rfl
    | true =>
      exfalso
      have h := Nat.eq_of_beq_eq_true h
      apply hi
      rcases x_cases hl with ⟨a, b⟩ | ⟨a, b⟩
      · unfold pos; rw [a]; simp only [cond_false]; omega
      · omega
  unfold upN
  rw [hx, hxi]
  simp only [Bool.or_self, cond_false]
  rcases x_cases hl with ⟨a, b⟩ | ⟨a, b⟩
  · have hp : pos k x = rung k x := by unfold pos; rw [a]; rfl
    by_cases h0 : x = 0
    · subst h0
      have : (Nat.beq 0 0 || Nat.beq 0 (signOf k)) = true := rfl
      rw [this]
      simp only [cond_true]
      have hp1 := pos_word (k := k) (s := false) i0
      rw [e1] at hp1 w1
      refine ⟨nan_false.2 (by rw [w1.2.1]; exact i0), w1.2.2, ?_⟩
      rw [hp1, hp]
      have : rung k 0 = 0 := Nat.zero_mod _
      rw [this]; rfl
    · have : (Nat.beq x 0 || Nat.beq x (signOf k)) = false := by
        rw [Bool.or_eq_false_iff]
        exact ⟨nbeq_f h0 , nbeq_f (by omega)⟩
      rw [this, a]
      simp only [cond_false]
      have hlt : rung k x + 1 ≤ infOf k := by omega
      have w := word_sg (k := k) (s := false) hlt
      have hp1 := pos_word (k := k) (s := false) hlt
      have e2 : k.format.word false (rung k x + 1) = x + 1 := by
        show rung k x + 1 = x + 1
        omega
      rw [e2] at w hp1
      refine ⟨nan_false.2 (by rw [w.2.1]; exact hlt), w.2.2, ?_⟩
      rw [hp1, hp]; rfl
  · have hp : pos k x = -(rung k x : Int) := by unfold pos; rw [a]; rfl
    by_cases h0 : x = signOf k
    · have h00 : rung k x = 0 := by omega
      have : (Nat.beq x 0 || Nat.beq x (signOf k)) = true := by
        rw [Bool.or_eq_true]; right
        exact nbeq_t h0
      rw [this]
      simp only [cond_true]
      have hp1 := pos_word (k := k) (s := false) i0
      rw [e1] at hp1 w1
      refine ⟨nan_false.2 (by rw [w1.2.1]; exact i0), w1.2.2, ?_⟩
      rw [hp1, hp, h00]; rfl
    · have s0 := sign_pos k
      have : (Nat.beq x 0 || Nat.beq x (signOf k)) = false := by
        rw [Bool.or_eq_false_iff]
        exact ⟨nbeq_f (by omega), nbeq_f h0⟩
      rw [this, a]
      simp only [cond_false, cond_true]
      have hlt : rung k x - 1 ≤ infOf k := by omega
      have w := word_sg (k := k) (s := true) hlt
      have hp1 := pos_word (k := k) (s := true) hlt
      have e2 : k.format.word true (rung k x - 1) = x - 1 := by
        show k.format.signWeight + (rung k x - 1) = x - 1
        rw [sign_eq]
        omega
      rw [e2] at w hp1
      refine ⟨nan_false.2 (by rw [w.2.1]; exact hlt), w.2.2, ?_⟩
      rw [hp1, hp]
      simp only [cond_true]
      omega
theorem upN_inf (h : x = infOf k) : upN k x = x := by
  subst h
  unfold upN
  have : Nat.beq (infOf k) (infOf k) = true := nbeq_t rfl
  rw [this, Bool.or_true]; rfl

/-! ### between two words -/
theorem Near.tie_val {f : Format} {a : Rat} {r t : Nat} (h : Near f a r) (ht : t < f.infRung) (e : a = (mg f t + mg f (t + 1)) / 2) : r = t + t % 2 := h.tie t ht (by grind)
theorem Rnd.tie {b t : Nat} {s : Bool} (h : Rnd k (sgd s ((mg k.format t + mg k.format (t + 1)) / 2)) b) (ht : t < infOf k) : ev k b = sgd s (mg k.format (t + t % 2)) := by
  obtain ⟨s', r, rfl, h1, h2⟩ := h
  have hi := h2.inf
  rw [inf_eq] at hi
  have n1 := mg_nonneg k.format t
  have n2 := mg_lt k.format (show t < t + 1 by omega)
  have hs : s' = s := by
    cases s <;> cases s' <;> first | rfl | (exfalso; simp only [sgd, cond_true, cond_false] at h1; grind)
  subst hs
  rw [sgd_sgd] at h2
  have := h2.tie_val (by rw [inf_eq]; exact ht) rfl
  rw [ev_word hi, this]
theorem Rnd.lower {b t : Nat} {s : Bool} {a : Rat} (h : Rnd k (sgd s a) b) (ht : t < infOf k) (g0 : 0 < a) (g1 : mg k.format t ≤ a) (g2 : 2 * a < mg k.format t + mg k.format (t + 1)) : ev k b = sgd s (mg k.format t) := by
  obtain ⟨s', r, rfl, h1, h2⟩ := h
  have hi := h2.inf
  rw [inf_eq] at hi
  have hs : s' = s := by
    cases s <;> cases s' <;> first | rfl | (exfalso; simp only [sgd, cond_true, cond_false] at h1; grind)
  subst hs
  rw [sgd_sgd] at h2
  have a1 := h2.lo t (by rw [inf_eq]; omega) g1
  have a2 := h2.lt t (by rw [inf_eq]; omega) g2
  rw [ev_word hi, show r = t by omega]
theorem Rnd.upper {b t : Nat} {s : Bool} {a : Rat} (h : Rnd k (sgd s a) b) (ht : t < infOf k) (g0 : 0 < a) (g1 : a ≤ mg k.format (t + 1)) (g2 : mg k.format t + mg k.format (t + 1) < 2 * a) : ev k b = sgd s (mg k.format (t + 1)) := by
  obtain ⟨s', r, rfl, h1, h2⟩ := h
  have hi := h2.inf
  rw [inf_eq] at hi
  have hs : s' = s := by
    cases s <;> cases s' <;> first | rfl | (exfalso; simp only [sgd, cond_true, cond_false] at h1; grind)
  subst hs
  rw [sgd_sgd] at h2
  have a1 := h2.hi (t + 1) g1
  have a2 := h2.gt t (by rw [inf_eq]; omega) g2
  rw [ev_word hi, show r = t + 1 by omega]

end Fl
end Go.Ev
