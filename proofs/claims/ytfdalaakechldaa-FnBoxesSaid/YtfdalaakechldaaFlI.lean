/- Floats as rational numbers: numbers of few binary digits, which are exact. -/
import Derived.Test.YtfdalaakechldaaFlH
set_option linter.unusedVariables false
set_option linter.unusedSimpArgs false
namespace Go.Ev
open Ieee

namespace Fl
/-- A number with at most s binary digits behind the point, at most b of their units. -/
def Gr (s b : Nat) (q : Rat) : Prop := ∃ n : Int, q * ((2 ^ s : Nat) : Rat) = n ∧ n.natAbs ≤ b
theorem Gr.le {s b c : Nat} {q : Rat} (h : Gr s b q) (hb : b ≤ c) : Gr s c q := by
  obtain ⟨n, h1, h2⟩ := h
  exact ⟨n, h1, by omega⟩
theorem Gr.up {s b : Nat} {q : Rat} (h : Gr s b q) (t : Nat) : Gr (s + t) (b * 2 ^ t) q := by
  obtain ⟨n, h1, h2⟩ := h
  refine ⟨n * ((2 ^ t : Nat) : Int), ?_, ?_⟩
  · rw [Nat.pow_add, Rat.natCast_mul, Rat.intCast_mul, ← h1, Rat.mul_assoc]; rfl
  · rw [Int.natAbs_mul, Int.natAbs_natCast]
    exact Nat.mul_le_mul_right _ h2
theorem Gr.add {s b c : Nat} {p q : Rat} (h : Gr s b p) (h' : Gr s c q) : Gr s (b + c) (p + q) := by
  obtain ⟨n, h1, h2⟩ := h
  obtain ⟨m, h3, h4⟩ := h'
  exact ⟨n + m, by rw [Rat.add_mul, h1, h3, Rat.intCast_add], by omega⟩
theorem Gr.sub {s b c : Nat} {p q : Rat} (h : Gr s b p) (h' : Gr s c q) : Gr s (b + c) (p - q) := by
  obtain ⟨n, h1, h2⟩ := h
  obtain ⟨m, h3, h4⟩ := h'
  exact ⟨n - m, by rw [Rat.intCast_sub, ← h1, ← h3]; grind, by omega⟩
theorem Gr.neg {s b : Nat} {p : Rat} (h : Gr s b p) : Gr s b (-p) := by
  obtain ⟨n, h1, h2⟩ := h
  exact ⟨-n, by rw [Rat.intCast_neg, ← h1, Rat.neg_mul], by omega⟩
theorem Gr.mul {s t b c : Nat} {p q : Rat} (h : Gr s b p) (h' : Gr t c q) : Gr (s + t) (b * c) (p * q) := by
  obtain ⟨n, h1, h2⟩ := h
  obtain ⟨m, h3, h4⟩ := h'
  refine ⟨n * m, ?_, ?_⟩
  · rw [Nat.pow_add, Rat.natCast_mul, Rat.intCast_mul, ← h1, ← h3]; grind
  · rw [Int.natAbs_mul]
    exact Nat.mul_le_mul h2 h4
theorem Gr.int (n : Int) {b : Nat} (h : n.natAbs ≤ b) : Gr 0 b (n : Rat) := ⟨n, by rw [Nat.pow_zero]; exact Rat.mul_one _, h⟩
theorem Gr.zero (s b : Nat) : Gr s b 0 := ⟨0, by rw [Rat.zero_mul]; rfl, by omega⟩
theorem Gr.rep32 {s b : Nat} {q : Rat} (h : Gr s b q) (hb : b ≤ 16777216) (hs : s ≤ 149) : Rep .f32 q := by
  obtain ⟨n, h1, h2⟩ := h
  exact Fl.rep32 n s h1 (by omega) hs
theorem Gr.rep64 {s b : Nat} {q : Rat} (h : Gr s b q) (hb : b ≤ 9007199254740992) (hs : s ≤ 1074) : Rep .f64 q := by
  obtain ⟨n, h1, h2⟩ := h
  exact Fl.rep64 n s h1 (by omega) hs

/-- A 32-bit word that stands for such a number. -/
structure Q (s b : Nat) (x : Nat) (q : Rat) : Prop where
  x : Ex .f32 x q
  g : Gr s b q
section
variable {s t b c x y : Nat} {p q : Rat}
theorem Q.le (h : Q s b x q) (hb : b ≤ c) : Q s c x q := ⟨h.x, h.g.le hb⟩
theorem Q.up (h : Q s b x q) (t : Nat) : Q (s + t) (b * 2 ^ t) x q := ⟨h.x, h.g.up t⟩
theorem Q.as (h : Q s b x p) (e : p = q) : Q s b x q := e ▸ h
theorem Q.add (h : Q s b x p) (h' : Q s c y q) (hb : b + c ≤ 16777216) (hs : s ≤ 149) : Q s (b + c) (fadd .f32 x y) (p + q) :=
  ⟨h.x.add h'.x ((h.g.add h'.g).rep32 hb hs), h.g.add h'.g⟩
theorem Q.sub (h : Q s b x p) (h' : Q s c y q) (hb : b + c ≤ 16777216) (hs : s ≤ 149) : Q s (b + c) (fsub .f32 x y) (p - q) :=
  ⟨h.x.sub h'.x ((h.g.sub h'.g).rep32 hb hs), h.g.sub h'.g⟩
theorem Q.mul (h : Q s b x p) (h' : Q t c y q) (hb : b * c ≤ 16777216) (hs : s + t ≤ 149) : Q (s + t) (b * c) (fmul .f32 x y) (p * q) :=
  ⟨h.x.mul h'.x ((h.g.mul h'.g).rep32 hb hs), h.g.mul h'.g⟩
theorem Q.neg (h : Q s b x p) : Q s b (fneg .f32 x) (-p) := ⟨h.x.neg, h.g.neg⟩
end

/-- What a word of a known magnitude stands for. -/
theorem ev_lit {k : FloatKind} {x : Nat} (s : Bool) (p j : Nat) (hj : j ≤ 2 * k.format.binade) (h : p = 0 ∨ k.format.binade ≤ j) (hx : x = k.format.word s (p * k.format.binade + j)) (hr : p * k.format.binade + j ≤ infOf k) :
    ev k x = sgd s ((j : Rat) * pw (k.format.leastPlace + p)) := by
  rw [hx, ev_word hr, mg_at k.format p j hj h]
theorem q_zero : Q 0 0 0 0 := ⟨⟨by decide, by decide, (ev_zero (by decide)).2 (.inl rfl)⟩, Gr.zero 0 0⟩
theorem q_negz : Q 0 0 2147483648 0 := ⟨⟨by decide, by decide, (ev_zero (by decide)).2 (.inr rfl)⟩, Gr.zero 0 0⟩
theorem nearest_lit {x : Nat} (n : Int) (h : n.natAbs ≤ 16777216) (e : FloatKind.f32.nearest n = x) : Q 0 n.natAbs x (n : Rat) := by
  subst e
  exact ⟨ex_int32 h, Gr.int n (Nat.le_refl _)⟩
theorem q_one : Q 0 1 1065353216 1 := (nearest_lit 1 (by decide) (by decide +kernel)).as rfl
theorem q_two : Q 0 2 1073741824 2 := (nearest_lit 2 (by decide) (by decide +kernel)).as rfl
theorem q_four : Q 0 4 1082130432 4 := (nearest_lit 4 (by decide) (by decide +kernel)).as rfl
theorem q_neg1 : Q 0 1 3212836864 (-1) := ((nearest_lit (x := 3212836864) (-1) (by decide) (by decide +kernel)).le (c := 1) (by decide)).as rfl

/-- An integer's share of a power of two. -/
theorem q_div {n : Int} {b : Nat} (s y : Nat) (hn : n.natAbs ≤ b) (hb : b ≤ 16777216) (hs : s ≤ 100) (hy : Ex .f32 y ((2 ^ s : Nat) : Rat)) :
    Q s b (fdiv .f32 (FloatKind.f32.nearest n) y) ((n : Rat) / ((2 ^ s : Nat) : Rat)) := by
  have h0 : (((2 ^ s : Nat) : Rat)) ≠ 0 := by
    have : (0 : Rat) < ((2 ^ s : Nat) : Rat) := Rat.natCast_pos.2 (Nat.two_pow_pos _)
    grind
  have g : Gr s b ((n : Rat) / ((2 ^ s : Nat) : Rat)) := ⟨n, Rat.div_mul_cancel h0, hn⟩
  exact ⟨(ex_int32 (by omega)).div hy h0 (g.rep32 hb (by omega)), g⟩

end Fl
end Go.Ev
