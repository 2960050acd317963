/- Floats up to the bits of a not-a-number. -/
import Derived.Test.YtfdalaakechldaaEvDef
import Derived.Laws.FloatBits
import Derived.Laws.FloatArith
set_option linter.unusedVariables false
set_option linter.unusedSimpArgs false
namespace Go.Ev
open Ieee

theorem sign_eq (k : FloatKind) : k.format.signWeight = signOf k := by cases k <;> rfl
theorem inf_eq (k : FloatKind) : k.format.infRung = infOf k := by cases k <;> rfl
theorem width_eq (k : FloatKind) : 2 ^ k.format.width = 2 * signOf k := by cases k <;> rfl
theorem binade_le (k : FloatKind) : k.format.binade ≤ infOf k := by cases k <;> decide
theorem inf_lt_sign (k : FloatKind) : infOf k < signOf k := by cases k <;> decide
theorem nan_qnan (k : FloatKind) : nan k (qnan k) = true := by cases k <;> decide
theorem qnan_lt (k : FloatKind) : qnan k < 2 * signOf k := by cases k <;> decide

theorem nan_iff (k : FloatKind) (b : Nat) : nan k b = true ↔ infOf k < b % signOf k := by simp [nan, Nat.blt_eq]

theorem read_nan {k : FloatKind} {b : Nat} (h : nan k b = true) : ∃ s t, k.format.read b = .nan s t := by
  rw [nan_iff] at h
  have h1 := binade_le k
  unfold Format.read
  simp only [sign_eq, inf_eq]
  rw [if_neg (by omega), if_neg (by omega), if_neg (by omega)]
  exact ⟨_, _, rfl⟩
theorem read_not_nan {k : FloatKind} {b : Nat} (h : nan k b = false) : ∀ s t, k.format.read b ≠ .nan s t := by
  have h' : ¬ infOf k < b % signOf k := by
    intro h2
    have := (nan_iff k b).2 h2
    rw [h] at this
    cases this
  intro s t
  unfold Format.read
  simp only [sign_eq, inf_eq]
  split
  · simp
  · split
    · simp
    · rw [if_pos (by omega)]; simp

theorem canon_not {k : FloatKind} {b : Nat} (h : nan k b = false) : canon k b = b := by simp [canon, h]
theorem canon_nan {k : FloatKind} {b : Nat} (h : nan k b = true) : canon k b = qnan k := by simp [canon, h]
theorem nan_canon (k : FloatKind) (b : Nat) : nan k (canon k b) = nan k b := by
  cases h : nan k b
  · rw [canon_not h, h]
  · rw [canon_nan h, nan_qnan]
theorem canon_canon (k : FloatKind) (b : Nat) : canon k (canon k b) = canon k b := by
  cases h : nan k b
  · rw [canon_not h, canon_not h]
  · rw [canon_nan h, canon_nan (nan_qnan k)]
theorem canon_lt {k : FloatKind} {b : Nat} (h : b < 2 * signOf k) : canon k b < 2 * signOf k := by
  cases h' : nan k b
  · rw [canon_not h']; exact h
  · rw [canon_nan h']; exact qnan_lt k

/-- A datum that is no not-a-number. -/
def plainD : Datum → Bool
  | .nan .. => false
  | _ => true

theorem nan_word {k : FloatKind} (neg : Bool) {r : Nat} (h : r ≤ infOf k) : nan k (k.format.word neg r) = false := by
  cases hn : nan k (k.format.word neg r) with
  | false => rfl
  | true =>
    rw [nan_iff] at hn
    have := inf_lt_sign k
    unfold Format.word at hn
    rw [sign_eq] at hn
    split at hn
    · rw [Nat.add_mod, Nat.mod_self, Nat.zero_add, Nat.mod_mod, Nat.mod_eq_of_lt (by omega)] at hn; omega
    · rw [Nat.mod_eq_of_lt (by omega)] at hn; omega

theorem nan_write {k : FloatKind} {d : Datum} (h : plainD d = true) : nan k (k.format.write d) = false := by
  cases d with
  | nan s t => simp [plainD] at h
  | infinity s => exact nan_word s (by rw [inf_eq]; exact Nat.le_refl _)
  | number s m e =>
    unfold Format.write
    simp only []
    unfold Format.nearest
    split
    · exact nan_word s (Nat.zero_le _)
    · exact nan_word s (by rw [inf_eq]; exact Nat.min_le_right _ _)

theorem plain_sum {x y d : Datum} (h : x.sum y = some d) : plainD d = true := by
  cases x <;> cases y <;> simp [Datum.sum] at h
  · subst h; rfl
  · subst h; rfl
  · subst h; rfl
  · obtain ⟨_, rfl⟩ := h; rfl
theorem plain_product {x y d : Datum} (h : x.product y = some d) : plainD d = true := by
  cases x <;> cases y <;> simp [Datum.product] at h
  · subst h; rfl
  · obtain ⟨_, rfl⟩ := h; rfl
  · obtain ⟨_, rfl⟩ := h; rfl
  · subst h; rfl
theorem plain_quotient {n : Nat} {x y d : Datum} (h : x.quotient n y = some d) : plainD d = true := by
  cases x <;> cases y <;> simp only [Datum.quotient] at h
  all_goals (repeat' split at h)
  all_goals first | (cases h; rfl) | (cases h; done)
theorem plain_root {n : Nat} {x d : Datum} (h : x.root n = some d) : plainD d = true := by
  cases x <;> simp only [Datum.root] at h
  all_goals (repeat' split at h)
  all_goals first | (cases h; rfl) | (cases h; done)

section
variable {k : FloatKind} {x y r : Nat}
theorem nan_add (h : k.format.add x y = some r) : nan k r = false := by
  unfold Format.add at h
  cases hs : (k.format.read x).sum (k.format.read y) with
  | none => simp [hs] at h
  | some d => simp [hs] at h; subst h; exact nan_write (plain_sum hs)
theorem nan_sub (h : k.format.sub x y = some r) : nan k r = false := by
  unfold Format.sub at h
  cases hs : (k.format.read x).sum (k.format.read y).opposite with
  | none => simp [hs] at h
  | some d => simp [hs] at h; subst h; exact nan_write (plain_sum hs)
theorem nan_mul (h : k.format.mul x y = some r) : nan k r = false := by
  unfold Format.mul at h
  cases hs : (k.format.read x).product (k.format.read y) with
  | none => simp [hs] at h
  | some d => simp [hs] at h; subst h; exact nan_write (plain_product hs)
theorem nan_div (h : k.format.div x y = some r) : nan k r = false := by
  unfold Format.div at h
  cases hs : (k.format.read x).quotient (k.format.fractionBits + 2) (k.format.read y) with
  | none => simp [hs] at h
  | some d => simp [hs] at h; subst h; exact nan_write (plain_quotient hs)
theorem nan_sqrt (h : k.format.sqrt x = some r) : nan k r = false := by
  unfold Format.sqrt at h
  cases hs : (k.format.read x).root (k.format.fractionBits + 2) with
  | none => simp [hs] at h
  | some d => simp [hs] at h; subst h; exact nan_write (plain_root hs)

theorem sum_nan_l (s : Bool) (t : Nat) (d : Datum) : (Datum.nan s t).sum d = none := by cases d <;> rfl
theorem sum_nan_r (s : Bool) (t : Nat) (d : Datum) : d.sum (Datum.nan s t) = none := by cases d <;> rfl
theorem product_nan_l (s : Bool) (t : Nat) (d : Datum) : (Datum.nan s t).product d = none := by cases d <;> rfl
theorem product_nan_r (s : Bool) (t : Nat) (d : Datum) : d.product (Datum.nan s t) = none := by cases d <;> rfl
theorem quotient_nan_l (n : Nat) (s : Bool) (t : Nat) (d : Datum) : (Datum.nan s t).quotient n d = none := by cases d <;> rfl
theorem quotient_nan_r (n : Nat) (s : Bool) (t : Nat) (d : Datum) : d.quotient n (Datum.nan s t) = none := by cases d <;> rfl
theorem order_nan_l (s : Bool) (t : Nat) (d : Datum) : (Datum.nan s t).order d = none := by cases d <;> rfl
theorem order_nan_r (s : Bool) (t : Nat) (d : Datum) : d.order (Datum.nan s t) = none := by cases d <;> rfl

/-- What does not look at a not-a-number's bits does not see whether they are the usual ones. -/
theorem canon2 {α : Type} (F : Datum → Datum → Option α) (hl : ∀ s t d, F (.nan s t) d = none) (hr : ∀ s t d, F d (.nan s t) = none) (x y : Nat) :
    F (k.format.read (canon k x)) (k.format.read (canon k y)) = F (k.format.read x) (k.format.read y) := by
  cases hx : nan k x with
  | true =>
    obtain ⟨s, t, e⟩ := read_nan hx
    obtain ⟨s', t', e'⟩ := read_nan (k := k) (b := canon k x) (by rw [nan_canon, hx])
    rw [e, e', hl, hl]
  | false =>
    cases hy : nan k y with
    | true =>
      obtain ⟨s, t, e⟩ := read_nan hy
      obtain ⟨s', t', e'⟩ := read_nan (k := k) (b := canon k y) (by rw [nan_canon, hy])
      rw [e, e', hr, hr]
    | false => rw [canon_not hx, canon_not hy]

theorem add_canon (x y : Nat) : k.format.add (canon k x) (canon k y) = k.format.add x y := by
  unfold Format.add; rw [canon2 _ sum_nan_l sum_nan_r]
theorem sub_canon (x y : Nat) : k.format.sub (canon k x) (canon k y) = k.format.sub x y := by
  unfold Format.sub
  rw [canon2 (fun a b => a.sum b.opposite) (fun s t d => sum_nan_l _ _ _) (fun s t d => sum_nan_r _ _ _)]
theorem mul_canon (x y : Nat) : k.format.mul (canon k x) (canon k y) = k.format.mul x y := by
  unfold Format.mul; rw [canon2 _ product_nan_l product_nan_r]
theorem div_canon (x y : Nat) : k.format.div (canon k x) (canon k y) = k.format.div x y := by
  unfold Format.div; rw [canon2 _ (quotient_nan_l _) (quotient_nan_r _)]
theorem order_canon (x y : Nat) : k.format.order (canon k x) (canon k y) = k.format.order x y := by
  unfold Format.order; rw [canon2 _ order_nan_l order_nan_r]
theorem sqrt_canon (x : Nat) : k.format.sqrt (canon k x) = k.format.sqrt x := by
  unfold Format.sqrt
  cases hx : nan k x with
  | true =>
    obtain ⟨s, t, e⟩ := read_nan hx
    obtain ⟨s', t', e'⟩ := read_nan (k := k) (b := canon k x) (by rw [nan_canon, hx])
    rw [e, e']; rfl
  | false => rw [canon_not hx]
end

theorem cut_nan (k : FloatKind) (q : Question) (hq : (∃ x y, q = .nanBits k x y) ∨ (∃ b, q = .nanConv k b)) (t : Nat) : nan k (q.cut t) = true ∧ q.cut t < 2 * signOf k := by
  have h2 := Nat.mod_lt t (show 0 < 2 by omega)
  rcases hq with ⟨x, y, rfl⟩ | ⟨b, rfl⟩ <;> cases k <;> simp only [Question.cut, nan_iff, infOf, signOf]
  all_goals
    have h1 := Nat.mod_lt (t / 2) (show 0 < 2 ^ 23 - 1 by decide)
    have h3 := Nat.mod_lt (t / 2) (show 0 < 2 ^ 52 - 1 by decide)
    generalize t / 2 % (2 ^ 23 - 1) = m at *
    generalize t / 2 % (2 ^ 52 - 1) = m' at *
    generalize t % 2 = n at *
    simp only [show (2 : Nat) ^ 23 - 1 = 8388607 by decide, show (2 : Nat) ^ 52 - 1 = 4503599627370495 by decide, show (2 : Nat) ^ 31 = 2147483648 by decide, show (2 : Nat) ^ 63 = 9223372036854775808 by decide] at *
    omega

end Go.Ev
