/- Floats as rational numbers: sums of lists. -/
import Derived.Test.YtfdalaakechldaaFlI
set_option linter.unusedVariables false
set_option linter.unusedSimpArgs false
namespace Go.Ev
open Ieee

namespace Fl
/-- A product with 1. -/
theorem fmul_one {x : Nat} (hl : x < 2 * signOf .f32) (hc : canon .f32 x = x) : fmul .f32 x 1065353216 = x := by
  cases hn : nan .f32 x with
  | true =>
    rw [canon_nan hn] at hc
    subst hc
    decide +kernel
  | false =>
    by_cases hf : fin .f32 x = true
    · have X : Ex .f32 x (ev .f32 x) := ⟨hf, hl, rfl⟩
      have e : ev .f32 x * 1 = ev .f32 x := Rat.mul_one _
      have M := X.mul q_one.x (by rw [e]; exact X.rep)
      rw [e] at M
      by_cases h0 : ev .f32 x = 0
      · rcases (ev_zero hl).1 h0 with rfl | h1
        · decide +kernel
        · have : x = 2147483648 := h1
          subst this
          decide +kernel
      · exact M.inj X h0
    · have hr := nan_false.1 hn
      have hri : rung .f32 x = infOf .f32 := by
        have : ¬ rung .f32 x < infOf .f32 := fun c => hf (fin_iff.2 c)
        omega
      have hx : x = 2139095040 ∨ x = 4286578688 := by
        rcases x_cases hl with ⟨_, b⟩ | ⟨_, b⟩
        · rw [hri] at b; exact .inl b
        · rw [hri] at b; exact .inr b
      rcases hx with rfl | rfl
      · decide +kernel
      · decide +kernel

def rsum : List Rat → Rat
  | [] => 0
  | q :: qs => q + rsum qs
theorem rsum_append (a b : List Rat) : rsum (a ++ b) = rsum a + rsum b := by
  induction a with
  | nil => simp [rsum, Rat.zero_add]
  | cons q qs ih => simp only [List.cons_append, rsum, ih]; grind
theorem rfoldl (qs : List Rat) : ∀ a, qs.foldl (· + ·) a = a + rsum qs := by
  induction qs with
  | nil => intro a; simp [rsum, Rat.add_zero]
  | cons q qs ih => intro a; simp only [List.foldl_cons, rsum, ih]; grind

/-- Words that stand for the numbers of a list. -/
inductive QL (s b : Nat) : List Nat → List Rat → Prop
  | nil : QL s b [] []
  | cons {x : Nat} {q : Rat} {xs : List Nat} {qs : List Rat} : Q s b x q → QL s b xs qs → QL s b (x :: xs) (q :: qs)
theorem QL.length {s b : Nat} {xs : List Nat} {qs : List Rat} (h : QL s b xs qs) : xs.length = qs.length := by
  induction h with
  | nil => rfl
  | cons _ _ ih => simp [ih]
theorem QL.take {s b : Nat} {xs : List Nat} {qs : List Rat} (h : QL s b xs qs) (n : Nat) : QL s b (xs.take n) (qs.take n) := by
  induction h generalizing n with
  | nil => simp; exact .nil
  | cons h1 _ ih =>
    cases n with
    | zero => exact .nil
    | succ n => exact .cons h1 (ih n)
theorem QL.drop {s b : Nat} {xs : List Nat} {qs : List Rat} (h : QL s b xs qs) (n : Nat) : QL s b (xs.drop n) (qs.drop n) := by
  induction h generalizing n with
  | nil => simp; exact .nil
  | cons h1 h2 ih =>
    cases n with
    | zero => exact .cons h1 h2
    | succ n => exact ih n
theorem QL.snoc {s b : Nat} {xs : List Nat} {qs : List Rat} {x : Nat} {q : Rat} (h : QL s b xs qs) (h' : Q s b x q) : QL s b (xs ++ [x]) (qs ++ [q]) := by
  induction h with
  | nil => exact .cons h' .nil
  | cons h1 _ ih => exact .cons h1 ih

def fsumL (xs : List Nat) : Nat := xs.foldl (fun a x => fadd .f32 a x) 0
theorem QL.foldl {s b : Nat} {xs : List Nat} {qs : List Rat} (h : QL s b xs qs) : ∀ {c a : Nat} {p : Rat}, Q s c a p → c + b * xs.length ≤ 16777216 → s ≤ 149 → Q s (c + b * xs.length) (xs.foldl (fun a x => fadd .f32 a x) a) (p + rsum qs) := by
  induction h with
  | nil =>
    intro c a p ha _ _
    exact (ha.le (by omega)).as (Rat.add_zero p).symm
  | @cons x q xs qs h1 _ ih =>
    intro c a p ha hb hs
    have e : b * (x :: xs).length = b + b * xs.length := by rw [List.length_cons, Nat.mul_add]; omega
    rw [e] at hb ⊢
    have := ih (ha.add h1 (by omega) hs) (by omega) hs
    refine (this.le (by omega)).as ?_
    simp only [rsum]
    grind
theorem QL.sum {b : Nat} {xs : List Nat} {qs : List Rat} (h : QL 0 b xs qs) (hb : b * xs.length ≤ 16777216) : Q 0 (b * xs.length) (fsumL xs) (rsum qs) :=
  ((h.foldl (q_zero) (by omega) (by omega)).le (by omega)).as (Rat.zero_add _)

/-- The sum of the sums of both halves. -/
def fpairsF : Nat → List Nat → Nat
  | 0, _ => 0
  | _ + 1, [] => 0
  | _ + 1, [x] => x
  | n + 1, x :: y :: xs => fadd .f32 (fpairsF n ((x :: y :: xs).take (((x :: y :: xs).length + 1) / 2))) (fpairsF n ((x :: y :: xs).drop (((x :: y :: xs).length + 1) / 2)))
def fpairsL (xs : List Nat) : Nat := fpairsF xs.length xs
theorem fpairsF_eq : ∀ (n m : Nat) (xs : List Nat), xs.length ≤ n → xs.length ≤ m → fpairsF n xs = fpairsF m xs := by
  intro n
  induction n with
  | zero =>
    intro m xs h1 h2
    have : xs = [] := List.length_eq_zero_iff.1 (by omega)
    subst this
    cases m <;> rfl
  | succ n ih =>
    intro m xs h1 h2
    match xs, m with
    | [], 0 => rfl
    | [], m + 1 => rfl
    | [x], 0 => simp at h2
    | [x], m + 1 => rfl
    | x :: y :: xs, 0 => simp at h2
    | x :: y :: xs, m + 1 =>
      simp only [fpairsF]
      have hl : (x :: y :: xs).length = xs.length + 2 := rfl
      rw [ih m _ (by rw [List.length_take]; omega) (by rw [List.length_take]; omega), ih m _ (by rw [List.length_drop]; omega) (by rw [List.length_drop]; omega)]
theorem fpairsL_two {xs : List Nat} (h : 2 ≤ xs.length) : fpairsL xs = fadd .f32 (fpairsL (xs.take ((xs.length + 1) / 2))) (fpairsL (xs.drop ((xs.length + 1) / 2))) := by
  match xs, h with
  | x :: y :: xs, _ =>
    have hl : (x :: y :: xs).length = xs.length + 2 := rfl
    have e : fpairsL (x :: y :: xs) = fadd .f32 (fpairsF (xs.length + 1) ((x :: y :: xs).take (((x :: y :: xs).length + 1) / 2))) (fpairsF (xs.length + 1) ((x :: y :: xs).drop (((x :: y :: xs).length + 1) / 2))) := rfl
    rw [e]
    unfold fpairsL
    rw [fpairsF_eq (xs.length + 1) _ _ (by rw [List.length_take]; omega) (Nat.le_refl _), fpairsF_eq (xs.length + 1) _ _ (by rw [List.length_drop]; omega) (Nat.le_refl _)]
theorem QL.pairs {b : Nat} : ∀ (n : Nat) {xs : List Nat} {qs : List Rat}, xs.length ≤ n → QL 0 b xs qs → b * xs.length ≤ 16777216 → Q 0 (b * xs.length) (fpairsL xs) (rsum qs) := by
  intro n
  induction n with
  | zero =>
    intro xs qs h1 h _
    have : xs = [] := List.length_eq_zero_iff.1 (by omega)
    subst this
    cases h
    exact q_zero.le (by omega)
  | succ n ih =>
    intro xs qs h1 h hb
    by_cases h2 : 2 ≤ xs.length
    · rw [fpairsL_two h2]
      have ht : (xs.take ((xs.length + 1) / 2)).length = (xs.length + 1) / 2 := by rw [List.length_take]; omega
      have hd : (xs.drop ((xs.length + 1) / 2)).length = xs.length - (xs.length + 1) / 2 := List.length_drop
      have hsum : b * ((xs.length + 1) / 2) + b * (xs.length - (xs.length + 1) / 2) = b * xs.length := by
        rw [← Nat.mul_add]; congr 1; omega
      have A := ih (xs := xs.take ((xs.length + 1) / 2)) (by omega) (h.take _) (by rw [ht]; omega)
      have B := ih (xs := xs.drop ((xs.length + 1) / 2)) (by omega) (h.drop _) (by rw [hd]; omega)
      rw [ht] at A
      rw [hd] at B
      refine ((A.add B (by omega) (by omega)).le (by omega)).as ?_
      rw [← rsum_append, List.take_append_drop]
    · match h with
      | .nil => exact q_zero.le (by omega)
      | .cons h1 .nil => exact (h1.le (by simp)).as (by simp [rsum, Rat.add_zero])
      | .cons _ (.cons _ _) => simp at h2

end Fl
end Go.Ev
