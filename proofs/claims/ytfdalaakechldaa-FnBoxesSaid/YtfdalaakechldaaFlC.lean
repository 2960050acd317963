/- Floats as rational numbers: what words stand for, their order, and their operations. -/
import Derived.Test.YtfdalaakechldaaFlB
import Derived.Test.YtfdalaakechldaaEvFloat
set_option linter.unusedVariables false
set_option linter.unusedSimpArgs false
namespace Go.Ev
open Ieee

namespace Fl

theorem even_k (k : FloatKind) : k.format.binade % 2 = 0 := by cases k <;> decide
theorem sign_pos (k : FloatKind) : 0 < signOf k := by cases k <;> decide

/-- Has a word a minus? -/
def sg (k : FloatKind) (b : Nat) : Bool := b / signOf k % 2 == 1
def rung (k : FloatKind) (b : Nat) : Nat := b % signOf k
/-- A number with a sign. -/
def sgd (s : Bool) (q : Rat) : Rat := bif s then -q else q
theorem sgd_sgd (s : Bool) (q : Rat) : sgd s (sgd s q) = q := by cases s <;> simp [sgd, Rat.neg_neg]
/-- What a word stands for; an infinity stands for the next power of two. -/
def ev (k : FloatKind) (b : Nat) : Rat := sgd (sg k b) (mg k.format (rung k b))
def fin (k : FloatKind) (b : Nat) : Bool := Nat.blt (rung k b) (infOf k)
theorem fin_iff {k : FloatKind} {b : Nat} : fin k b = true ↔ rung k b < infOf k := by simp [fin, Nat.blt_eq]
theorem nan_false {k : FloatKind} {b : Nat} : nan k b = false ↔ rung k b ≤ infOf k := by
  have := nan_iff k b
  unfold rung
  cases h : nan k b
  · simp [h] at this ⊢; exact this
  · simp [h] at this ⊢; omega
theorem fin_nan {k : FloatKind} {b : Nat} (h : fin k b = true) : nan k b = false := by
  rw [nan_false]; rw [fin_iff] at h; omega

theorem read_fin {k : FloatKind} {b : Nat} (h : fin k b = true) : ∃ m e, k.format.read b = .number (sg k b) m e ∧ (m : Rat) * pw e = mg k.format (rung k b) := by
  rw [fin_iff] at h
  unfold Format.read
  simp only [sign_eq, inf_eq]
  unfold rung sg mg mgN at *
  by_cases h1 : b % signOf k < k.format.binade
  · rw [if_pos h1, if_pos h1]
    exact ⟨_, _, rfl, rfl⟩
  · rw [if_neg h1, if_neg h1, if_pos h]
    refine ⟨_, _, rfl, ?_⟩
    rw [pw_add, pw_nat, Rat.natCast_mul]
    grind
theorem read_inf {k : FloatKind} {b : Nat} (h : rung k b = infOf k) : k.format.read b = .infinity (sg k b) := by
  have := binade_le k
  unfold Format.read
  simp only [sign_eq, inf_eq]
  unfold rung sg at *
  rw [if_neg (by omega), if_neg (by omega), if_pos h]

theorem word_sg {k : FloatKind} {s : Bool} {r : Nat} (h : r ≤ infOf k) : sg k (k.format.word s r) = s ∧ rung k (k.format.word s r) = r ∧ k.format.word s r < 2 * signOf k := by
  have := inf_lt_sign k
  have s0 := sign_pos k
  unfold Format.word sg rung
  rw [sign_eq]
  cases s
  · simp only [Bool.false_eq_true, if_false]
    rw [Nat.div_eq_of_lt (by omega)]
    exact ⟨rfl, Nat.mod_eq_of_lt (by omega), by omega⟩
  · simp only [if_true]
    rw [Nat.add_div_left _ s0, Nat.div_eq_of_lt (by omega), Nat.add_mod_left]
    exact ⟨rfl, Nat.mod_eq_of_lt (by omega), by omega⟩
theorem word_of {k : FloatKind} {b : Nat} (h : b < 2 * signOf k) : k.format.word (sg k b) (rung k b) = b := by
  have s0 := sign_pos k
  unfold Format.word sg rung
  rw [sign_eq]
  have h1 := Nat.div_add_mod b (signOf k)
  have h2 : b / signOf k < 2 := (Nat.div_lt_iff_lt_mul s0).2 h
  by_cases h3 : b / signOf k = 0
  · simp only [h3, Nat.mul_zero, Nat.zero_add] at h1
    simp [h3, h1]
  · have h4 : b / signOf k = 1 := Nat.le_antisymm (Nat.le_of_lt_succ h2) (Nat.pos_of_ne_zero h3)
    simp only [h4, Nat.mul_one] at h1
    simp [h4, h1]
theorem ev_word {k : FloatKind} {s : Bool} {r : Nat} (h : r ≤ infOf k) : ev k (k.format.word s r) = sgd s (mg k.format r) := by
  unfold ev
  rw [(word_sg h).1, (word_sg h).2.1]

theorem near_self {f : Format} (hB : f.binade % 2 = 0) {r : Nat} (h : r ≤ f.infRung) : Near f (mg f r) r := by
  have h1 := rg_near hB (mgN f r) f.leastPlace
  have h2 := h1.exact (t := r) rfl h
  rw [h2] at h1
  exact h1

/-- A word is what a number is rounded to. -/
def Rnd (k : FloatKind) (q : Rat) (b : Nat) : Prop := ∃ s r, b = k.format.word s r ∧ 0 ≤ sgd s q ∧ Near k.format (sgd s q) r

theorem Rnd.of {k : FloatKind} {s : Bool} {m : Nat} {e : Int} {q : Rat} (h : sgd s ((m : Rat) * pw e) = q) : Rnd k q (k.format.nearest s m e) := by
  refine ⟨s, rg k.format m e, nearest_eq _ _ _ _, ?_, ?_⟩
  · rw [← h, sgd_sgd]
    exact Rat.mul_nonneg Rat.natCast_nonneg (Rat.le_of_lt (pw_pos _))
  · rw [← h, sgd_sgd]
    exact rg_near (even_k k) m e
theorem Rnd.nan {k : FloatKind} {q : Rat} {b : Nat} (h : Rnd k q b) : nan k b = false := by
  obtain ⟨s, r, rfl, _, h1⟩ := h
  exact nan_word s (inf_eq k ▸ h1.inf)
theorem Rnd.lt2 {k : FloatKind} {q : Rat} {b : Nat} (h : Rnd k q b) : b < 2 * signOf k := by
  obtain ⟨s, r, rfl, _, h1⟩ := h
  exact (word_sg (inf_eq k ▸ h1.inf)).2.2
theorem rnd_self {k : FloatKind} {b : Nat} (h : nan k b = false) (h2 : b < 2 * signOf k) : Rnd k (ev k b) b := by
  rw [nan_false] at h
  refine ⟨sg k b, rung k b, (word_of h2).symm, ?_, ?_⟩
  · unfold ev; rw [sgd_sgd]; exact mg_nonneg _ _
  · unfold ev; rw [sgd_sgd]; exact near_self (even_k k) (by rw [inf_eq]; exact h)
theorem Rnd.mono {k : FloatKind} {q q' : Rat} {b b' : Nat} (h : Rnd k q b) (h' : Rnd k q' b') (hq : q ≤ q') : ev k b ≤ ev k b' := by
  obtain ⟨s, r, rfl, p1, n1⟩ := h
  obtain ⟨s', r', rfl, p2, n2⟩ := h'
  have i1 := n1.inf
  have i2 := n2.inf
  rw [inf_eq] at i1 i2
  rw [ev_word i1, ev_word i2]
  have a1 := mg_nonneg k.format r
  have a2 := mg_nonneg k.format r'
  cases s <;> cases s' <;> simp only [sgd, cond_true, cond_false] at *
  · exact mg_le _ (n1.mono n2 hq)
  · have e1 : q = 0 := by grind
    have e2 : q' = 0 := by grind
    subst e1
    have z1 : r = 0 := by have := n1.hi 0 (by rw [mg_zero]; grind); omega
    have z2 : r' = 0 := by have := n2.hi 0 (by rw [mg_zero]; grind); omega
    subst z1; subst z2
    rw [mg_zero]; grind
  · grind
  · have := mg_le k.format (n2.mono n1 (by grind))
    grind
theorem Rnd.exact {k : FloatKind} {q : Rat} {b w : Nat} (h : Rnd k q b) (hw : Go.Ev.nan k w = false) (hw2 : w < 2 * signOf k) (e : q = ev k w) : ev k b = ev k w := by
  have h2 := rnd_self hw hw2
  have a := h.mono h2 (by grind)
  have b := h2.mono h (by grind)
  grind
theorem Rnd.le {k : FloatKind} {q : Rat} {b w : Nat} (h : Rnd k q b) (hw : Go.Ev.nan k w = false) (hw2 : w < 2 * signOf k) (e : q ≤ ev k w) : ev k b ≤ ev k w := h.mono (rnd_self hw hw2) e
theorem Rnd.ge {k : FloatKind} {q : Rat} {b w : Nat} (h : Rnd k q b) (hw : Go.Ev.nan k w = false) (hw2 : w < 2 * signOf k) (e : ev k w ≤ q) : ev k w ≤ ev k b := (rnd_self hw hw2).mono h e

theorem ev_inj {k : FloatKind} {x y : Nat} (hx : x < 2 * signOf k) (hy : y < 2 * signOf k) (h : ev k x = ev k y) (h0 : ev k x ≠ 0) : x = y := by
  have e1 := word_of hx
  have e2 := word_of hy
  have a1 := mg_nonneg k.format (rung k x)
  have a2 := mg_nonneg k.format (rung k y)
  unfold ev at h h0
  have hs : sg k x = sg k y := by
    cases s1 : sg k x <;> cases s2 : sg k y <;> simp only [s1, s2, sgd, cond_true, cond_false] at h h0 <;> first | rfl | (exfalso; grind)
  have hr : rung k x = rung k y := by
    apply mg_inj k.format
    rw [hs] at h
    have := congrArg (sgd (sg k y)) h
    rwa [sgd_sgd, sgd_sgd] at this
  rw [← e1, ← e2, hs, hr]
theorem ev_zero {k : FloatKind} {x : Nat} (hx : x < 2 * signOf k) : ev k x = 0 ↔ x = 0 ∨ x = signOf k := by
  have e1 := word_of hx
  unfold ev
  constructor
  · intro h
    have h0 : mg k.format (rung k x) = mg k.format 0 := by
      rw [mg_zero]
      cases e : sg k x <;> rw [e] at h
      · exact h
      · have h : -mg k.format (rung k x) = 0 := h
        grind
    have := mg_inj k.format h0
    rw [this] at e1
    unfold Format.word at e1
    rw [sign_eq] at e1
    cases s : sg k x <;> simp only [s, Bool.false_eq_true, if_false, if_true] at e1
    · exact .inl e1.symm
    · exact .inr e1.symm
  · intro h
    have : rung k x = 0 := by
      unfold rung
      rcases h with rfl | rfl
      · exact Nat.zero_mod _
      · exact Nat.mod_self _
    rw [this, mg_zero]
    cases sg k x <;> simp [sgd]

/-! ### order -/
def cmpQ (x y : Rat) : Ordering := if x < y then .lt else if x = y then .eq else .gt
theorem cmpQ_lt {x y : Rat} (h : x < y) : cmpQ x y = .lt := by unfold cmpQ; rw [if_pos h]
theorem cmpQ_eq {x y : Rat} (h : x = y) : cmpQ x y = .eq := by
  subst h; unfold cmpQ; rw [if_neg Rat.lt_irrefl, if_pos rfl]
theorem cmpQ_gt {x y : Rat} (h : y < x) : cmpQ x y = .gt := by
  unfold cmpQ; rw [if_neg (by grind), if_neg (by grind)]
theorem compare_rat {a b : Int} {x y u : Rat} (hu : 0 < u) (ha : (a : Rat) * u = x) (hb : (b : Rat) * u = y) : compare a b = cmpQ x y := by
  subst ha; subst hb
  rcases Int.lt_trichotomy a b with h | h | h
  · rw [cmpQ_lt (Rat.mul_lt_mul_of_pos_right (Rat.intCast_lt_intCast.2 h) hu)]
    exact Int.compare_eq_lt.2 h
  · subst h
    rw [cmpQ_eq rfl]
    exact Int.compare_eq_eq.2 rfl
  · rw [cmpQ_gt (Rat.mul_lt_mul_of_pos_right (Rat.intCast_lt_intCast.2 h) hu)]
    exact Int.compare_eq_gt.2 h
theorem signed_rat (s : Bool) (m : Nat) (i b : Int) (h : b ≤ i) : ((signed s m (i - b).toNat : Int) : Rat) * pw b = sgd s ((m : Rat) * pw i) := by
  have e : ((m <<< (i - b).toNat : Nat) : Rat) * pw b = (m : Rat) * pw i := by
    rw [Nat.shiftLeft_eq, Rat.natCast_mul, ← pw_nat, Rat.mul_assoc, ← pw_add]
    congr 2
    omega
  unfold signed
  cases s
  · show (((m <<< (i - b).toNat : Nat) : Int) : Rat) * pw b = (m : Rat) * pw i
    rw [← e]; rfl
  · show ((-((m <<< (i - b).toNat : Nat) : Int) : Int) : Rat) * pw b = -((m : Rat) * pw i)
    rw [← e, Rat.intCast_neg, Rat.neg_mul]; rfl

theorem order_ev {k : FloatKind} {x y : Nat} (hx : nan k x = false) (hy : nan k y = false) :
    k.format.order x y = some (cmpQ (ev k x) (ev k y)) := by
  rw [nan_false] at hx hy
  unfold Format.order
  have ltinf : ∀ r, r < infOf k → mg k.format r < mg k.format (infOf k) := fun r h => mg_lt _ h
  have nn := mg_nonneg k.format
  have i0 : 0 < mg k.format (infOf k) := by
    have : mg k.format 0 < mg k.format (infOf k) := mg_lt _ (by cases k <;> decide)
    rwa [mg_zero] at this
  have ev_t : ∀ {b}, sg k b = true → ev k b = -mg k.format (rung k b) := fun h => by unfold ev; rw [h]; rfl
  have ev_f : ∀ {b}, sg k b = false → ev k b = mg k.format (rung k b) := fun h => by unfold ev; rw [h]; rfl
  by_cases fx : rung k x = infOf k <;> by_cases fy : rung k y = infOf k
  · rw [read_inf fx, read_inf fy]
    cases s1 : sg k x <;> cases s2 : sg k y <;> simp only [Datum.order]
    · rw [ev_f s1, ev_f s2, fx, fy, cmpQ_eq rfl]; rfl
    · rw [ev_f s1, ev_t s2, fx, fy, cmpQ_gt (by grind)]; rfl
    · rw [ev_t s1, ev_f s2, fx, fy, cmpQ_lt (by grind)]; rfl
    · rw [ev_t s1, ev_t s2, fx, fy, cmpQ_eq rfl]; rfl
  · obtain ⟨m, e, h1, h2⟩ := read_fin (k := k) (b := y) (fin_iff.2 (by omega))
    rw [read_inf fx, h1]
    have := ltinf (rung k y) (by omega)
    have := nn (rung k y)
    cases s1 : sg k x <;> cases s2 : sg k y <;> simp only [Datum.order]
    · rw [ev_f s1, ev_f s2, fx, cmpQ_gt (by grind)]; rfl
    · rw [ev_f s1, ev_t s2, fx, cmpQ_gt (by grind)]; rfl
    · rw [ev_t s1, ev_f s2, fx, cmpQ_lt (by grind)]; rfl
    · rw [ev_t s1, ev_t s2, fx, cmpQ_lt (by grind)]; rfl
  · obtain ⟨m, e, h1, h2⟩ := read_fin (k := k) (b := x) (fin_iff.2 (by omega))
    rw [read_inf fy, h1]
    have := ltinf (rung k x) (by omega)
    have := nn (rung k x)
    cases s1 : sg k x <;> cases s2 : sg k y <;> simp only [Datum.order]
    · rw [ev_f s1, ev_f s2, fy, cmpQ_lt (by grind)]; rfl
    · rw [ev_f s1, ev_t s2, fy, cmpQ_gt (by grind)]; rfl
    · rw [ev_t s1, ev_f s2, fy, cmpQ_lt (by grind)]; rfl
    · rw [ev_t s1, ev_t s2, fy, cmpQ_gt (by grind)]; rfl
  · obtain ⟨m, e, h1, h2⟩ := read_fin (k := k) (b := x) (fin_iff.2 (by omega))
    obtain ⟨m', e', h1', h2'⟩ := read_fin (k := k) (b := y) (fin_iff.2 (by omega))
    rw [h1, h1']
    simp only [Datum.order]
    unfold ev
    rw [← h2, ← h2']
    exact congrArg some (compare_rat (pw_pos _) (signed_rat _ _ _ _ (Int.min_le_left _ _)) (signed_rat _ _ _ _ (Int.min_le_right _ _)))

section
variable {k : FloatKind} {x y : Nat}
theorem flt_ev (hx : nan k x = false) (hy : nan k y = false) : flt k x y = decide (ev k x < ev k y) := by
  unfold flt; rw [order_ev hx hy]
  by_cases h : ev k x < ev k y
  · rw [cmpQ_lt h]
    first | rw [decide_eq_true (by grind)]; rfl | rw [decide_eq_false (by grind)]; rfl
  · by_cases h' : ev k x = ev k y
    · rw [cmpQ_eq h']
      first | rw [decide_eq_true (by grind)]; rfl | rw [decide_eq_false (by grind)]; rfl
    · rw [cmpQ_gt (by grind)]
      first | rw [decide_eq_true (by grind)]; rfl | rw [decide_eq_false (by grind)]; rfl
theorem feq_ev (hx : nan k x = false) (hy : nan k y = false) : feq k x y = decide (ev k x = ev k y) := by
  unfold feq; rw [order_ev hx hy]
  by_cases h : ev k x < ev k y
  · rw [cmpQ_lt h]
    first | rw [decide_eq_true (by grind)]; rfl | rw [decide_eq_false (by grind)]; rfl
  · by_cases h' : ev k x = ev k y
    · rw [cmpQ_eq h']
      first | rw [decide_eq_true (by grind)]; rfl | rw [decide_eq_false (by grind)]; rfl
    · rw [cmpQ_gt (by grind)]
      first | rw [decide_eq_true (by grind)]; rfl | rw [decide_eq_false (by grind)]; rfl
theorem fle_ev (hx : nan k x = false) (hy : nan k y = false) : fle k x y = decide (ev k x ≤ ev k y) := by
  unfold fle; rw [order_ev hx hy]
  by_cases h : ev k x < ev k y
  · rw [cmpQ_lt h]
    first | rw [decide_eq_true (by grind)]; rfl | rw [decide_eq_false (by grind)]; rfl
  · by_cases h' : ev k x = ev k y
    · rw [cmpQ_eq h']
      first | rw [decide_eq_true (by grind)]; rfl | rw [decide_eq_false (by grind)]; rfl
    · rw [cmpQ_gt (by grind)]
      first | rw [decide_eq_true (by grind)]; rfl | rw [decide_eq_false (by grind)]; rfl
theorem fgt_ev (hx : nan k x = false) (hy : nan k y = false) : fgt k x y = decide (ev k y < ev k x) := by
  unfold fgt; rw [order_ev hx hy]
  by_cases h : ev k x < ev k y
  · rw [cmpQ_lt h]
    first | rw [decide_eq_true (by grind)]; rfl | rw [decide_eq_false (by grind)]; rfl
  · by_cases h' : ev k x = ev k y
    · rw [cmpQ_eq h']
      first | rw [decide_eq_true (by grind)]; rfl | rw [decide_eq_false (by grind)]; rfl
    · rw [cmpQ_gt (by grind)]
      first | rw [decide_eq_true (by grind)]; rfl | rw [decide_eq_false (by grind)]; rfl
theorem fge_ev (hx : nan k x = false) (hy : nan k y = false) : fge k x y = decide (ev k y ≤ ev k x) := by
  unfold fge; rw [order_ev hx hy]
  by_cases h : ev k x < ev k y
  · rw [cmpQ_lt h]
    first | rw [decide_eq_true (by grind)]; rfl | rw [decide_eq_false (by grind)]; rfl
  · by_cases h' : ev k x = ev k y
    · rw [cmpQ_eq h']
      first | rw [decide_eq_true (by grind)]; rfl | rw [decide_eq_false (by grind)]; rfl
    · rw [cmpQ_gt (by grind)]
      first | rw [decide_eq_true (by grind)]; rfl | rw [decide_eq_false (by grind)]; rfl
theorem order_nan (h : nan k x = true ∨ nan k y = true) : k.format.order x y = none := by
  unfold Format.order
  rcases h with h | h
  · obtain ⟨s, t, e⟩ := read_nan h; rw [e]; exact order_nan_l _ _ _
  · obtain ⟨s, t, e⟩ := read_nan h; rw [e]; exact order_nan_r _ _ _
theorem flt_nan (h : nan k x = true ∨ nan k y = true) : flt k x y = false := by unfold flt; rw [order_nan h]; rfl
theorem feq_nan (h : nan k x = true ∨ nan k y = true) : feq k x y = false := by unfold feq; rw [order_nan h]; rfl
theorem fle_nan (h : nan k x = true ∨ nan k y = true) : fle k x y = false := by unfold fle; rw [order_nan h]; rfl
theorem fgt_nan (h : nan k x = true ∨ nan k y = true) : fgt k x y = false := by unfold fgt; rw [order_nan h]; rfl
theorem fge_nan (h : nan k x = true ∨ nan k y = true) : fge k x y = false := by unfold fge; rw [order_nan h]; rfl

/-! ### sums and products -/
theorem sgd_mul (s t : Bool) (a b : Rat) : sgd (s ^^ t) (a * b) = sgd s a * sgd t b := by
  cases s <;> cases t <;> simp [sgd, Rat.neg_mul, Rat.mul_neg, Rat.neg_neg]
theorem fmul_rnd (hx : fin k x = true) (hy : fin k y = true) : Rnd k (ev k x * ev k y) (fmul k x y) := by
  obtain ⟨m, e, h1, h2⟩ := read_fin hx
  obtain ⟨m', e', h1', h2'⟩ := read_fin hy
  unfold fmul Format.mul
  rw [h1, h1']
  simp only [Datum.product, Option.map_some, orNan, Format.write]
  apply Rnd.of
  unfold ev
  rw [← h2, ← h2', ← sgd_mul, pw_add, Rat.natCast_mul]
  congr 1
  grind
theorem fadd_core {s t : Bool} {m n : Nat} {i j : Int} :
    ∃ d, (Datum.number s m i).sum (.number t n j) = some d ∧ Rnd k (sgd s ((m : Rat) * pw i) + sgd t ((n : Rat) * pw j)) (k.format.write d) ∧
      (sgd s ((m : Rat) * pw i) + sgd t ((n : Rat) * pw j) = 0 → k.format.write d = k.format.word (s && t) 0) := by
  refine ⟨_, rfl, ?_, ?_⟩
  · simp only [Format.write]
    apply Rnd.of
    have e1 := signed_rat s m i (min i j) (Int.min_le_left _ _)
    have e2 := signed_rat t n j (min i j) (Int.min_le_right _ _)
    rw [← e1, ← e2, ← Rat.add_mul, ← Rat.intCast_add]
    generalize signed s m (i - min i j).toNat + signed t n (j - min i j).toNat = total
    by_cases h0 : total = 0
    · subst h0
      simp only [if_true, Int.natAbs_zero]
      have : ((0 : Nat) : Rat) * pw (min i j) = 0 := Rat.zero_mul _
      rw [this, Rat.intCast_zero, Rat.zero_mul]
      cases s && t <;> simp [sgd]
    · rw [if_neg h0]
      by_cases h : total < 0
      · rw [decide_eq_true h]
        simp only [sgd, cond_true]
        rw [← Rat.neg_mul]
        congr 1
        have : total = -(total.natAbs : Int) := by omega
        rw [this, Rat.intCast_neg, Int.natAbs_neg, Int.natAbs_natCast]
        rfl
      · rw [decide_eq_false h]
        simp only [sgd, cond_false]
        congr 1
        have : total = (total.natAbs : Int) := by omega
        rw [this, Int.natAbs_natCast]
        rfl
  · intro h
    have e1 := signed_rat s m i (min i j) (Int.min_le_left _ _)
    have e2 := signed_rat t n j (min i j) (Int.min_le_right _ _)
    rw [← e1, ← e2, ← Rat.add_mul, ← Rat.intCast_add] at h
    simp only [Format.write]
    generalize signed s m (i - min i j).toNat + signed t n (j - min i j).toNat = total at *
    have : total = 0 := by
      rcases Rat.mul_eq_zero.1 h with h | h
      · exact_mod_cast h
      · have := pw_pos (min i j); grind
    subst this
    simp [Format.nearest]
theorem fadd_rnd (hx : fin k x = true) (hy : fin k y = true) : Rnd k (ev k x + ev k y) (fadd k x y) := by
  obtain ⟨m, e, h1, h2⟩ := read_fin hx
  obtain ⟨m', e', h1', h2'⟩ := read_fin hy
  obtain ⟨d, g1, g2, _⟩ := fadd_core (k := k) (s := sg k x) (t := sg k y) (m := m) (n := m') (i := e) (j := e')
  unfold fadd Format.add
  rw [h1, h1', g1]
  unfold ev
  rw [← h2, ← h2']
  exact g2
theorem fadd_zero (hx : fin k x = true) (hy : fin k y = true) (h : ev k x + ev k y = 0) : fadd k x y = k.format.word (sg k x && sg k y) 0 := by
  obtain ⟨m, e, h1, h2⟩ := read_fin hx
  obtain ⟨m', e', h1', h2'⟩ := read_fin hy
  obtain ⟨d, g1, _, g2⟩ := fadd_core (k := k) (s := sg k x) (t := sg k y) (m := m) (n := m') (i := e) (j := e')
  unfold fadd Format.add
  rw [h1, h1', g1]
  unfold ev at h
  rw [← h2, ← h2'] at h
  exact g2 h
theorem sgd_not (s : Bool) (q : Rat) : sgd (!s) q = -sgd s q := by cases s <;> simp [sgd, Rat.neg_neg]
theorem fsub_rnd (hx : fin k x = true) (hy : fin k y = true) : Rnd k (ev k x - ev k y) (fsub k x y) := by
  obtain ⟨m, e, h1, h2⟩ := read_fin hx
  obtain ⟨m', e', h1', h2'⟩ := read_fin hy
  obtain ⟨d, g1, g2, _⟩ := fadd_core (k := k) (s := sg k x) (t := !sg k y) (m := m) (n := m') (i := e) (j := e')
  unfold fsub Format.sub
  rw [h1, h1']
  simp only [Datum.opposite]
  rw [g1]
  unfold ev
  rw [← h2, ← h2']
  rw [sgd_not, ← Rat.sub_eq_add_neg] at g2
  exact g2
theorem fsub_zero (hx : fin k x = true) (hy : fin k y = true) (h : ev k x = ev k y) : fsub k x y = k.format.word (sg k x && !sg k y) 0 := by
  obtain ⟨m, e, h1, h2⟩ := read_fin hx
  obtain ⟨m', e', h1', h2'⟩ := read_fin hy
  obtain ⟨d, g1, _, g2⟩ := fadd_core (k := k) (s := sg k x) (t := !sg k y) (m := m) (n := m') (i := e) (j := e')
  unfold fsub Format.sub
  rw [h1, h1']
  simp only [Datum.opposite]
  rw [g1]
  unfold ev at h
  rw [← h2, ← h2'] at h
  refine g2 ?_
  rw [sgd_not, h]
  grind
end

/-! ### other kinds -/
theorem widen_ev {b : Nat} (h : nan .f32 b = false) : True := trivial

end Fl
end Go.Ev
