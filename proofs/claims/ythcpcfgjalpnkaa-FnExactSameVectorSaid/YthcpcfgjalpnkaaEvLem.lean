/- Small laws that the proofs of functions use. -/
import Derived.Test.YthcpcfgjalpnkaaEvRow
import Derived.Test.YthcpcfgjalpnkaaEvExt
import Derived.Test.YthcpcfgjalpnkaaEvLoop
import Derived.IntWalk
set_option linter.unusedVariables false
namespace Go.Ev

theorem feq_self (k : FloatKind) (x : Nat) : feq k x x = !nan k x := by
  unfold feq Ieee.Format.order
  cases h : nan k x with
  | true => obtain ⟨s, t, e⟩ := read_nan h; rw [e]; rfl
  | false =>
    have := read_not_nan h
    cases e : k.format.read x with
    | nan s t => exact absurd e (this s t)
    | infinity s => simp [Ieee.Datum.order]
    | number s m p => simp [Ieee.Datum.order]

theorem wrap_of {k : IntKind} {n : Int} (h1 : k.min ≤ n) (h2 : n ≤ k.max) : k.wrap n = n := by
  cases k
  · exact IntWalk.i8_in n ⟨h1, h2⟩
  · exact IntWalk.i16_in n ⟨h1, h2⟩
  · exact IntWalk.i32_in n ⟨h1, h2⟩
  · exact IntWalk.i64_in n ⟨h1, h2⟩
  · exact IntWalk.u8_in n ⟨h1, h2⟩
  · exact IntWalk.u16_in n ⟨h1, h2⟩
  · exact IntWalk.u32_in n ⟨h1, h2⟩
  · exact IntWalk.u64_in n ⟨h1, h2⟩
theorem i64_of {n : Int} (h1 : -9223372036854775808 ≤ n) (h2 : n ≤ 9223372036854775807) : IntKind.i64.wrap n = n := wrap_of h1 h2
theorem i32_of {n : Int} (h1 : -2147483648 ≤ n) (h2 : n ≤ 2147483647) : IntKind.i32.wrap n = n := wrap_of h1 h2
theorem beq_cast (a b : Nat) : ((a : Int) == (b : Int)) = (a == b) := by
  by_cases e : a = b
  · simp [e]
  · have : (a : Int) ≠ b := fun h => e (by omega)
    rw [beq_eq_false_iff_ne.2 e, beq_eq_false_iff_ne.2 this]
theorem bne_cast (a b : Nat) : ((a : Int) != (b : Int)) = (a != b) := by
  simp only [bne, beq_cast]
end Go.Ev
