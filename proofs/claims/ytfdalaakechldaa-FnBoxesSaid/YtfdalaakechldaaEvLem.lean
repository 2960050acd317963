/- Small laws that the proofs of functions use. -/
import Derived.Test.YtfdalaakechldaaEvRow
import Derived.Test.YtfdalaakechldaaEvExt
import Derived.Test.YtfdalaakechldaaEvLoop
import Derived.Test.YtfdalaakechldaaEvTake
import Derived.IntWalk
set_option linter.unusedVariables false
namespace Go.Ev

theorem feq_self (k : FloatKind) (x : Nat) : feq k x x = !nan k x := by
  unfold feq Ieee.Format.order
  cases h : nan k x with
  | true => obtain ⟨s, t, e⟩ := read_nan h; rw [e]; rfl
  | false =>
    have := read_not_nan h
    cases e : k.format.read x with
    | nan s t => exact absurd e (this s t)
    | infinity s => simp [Ieee.Datum.order]
    | number s m p => simp [Ieee.Datum.order]

theorem wrap_of {k : IntKind} {n : Int} (h1 : k.min ≤ n) (h2 : n ≤ k.max) : k.wrap n = n := by
  cases k
  · exact IntWalk.i8_in n ⟨h1, h2⟩
  · exact IntWalk.i16_in n ⟨h1, h2⟩
  · exact IntWalk.i32_in n ⟨h1, h2⟩
  · exact IntWalk.i64_in n ⟨h1, h2⟩
  · exact IntWalk.u8_in n ⟨h1, h2⟩
  · exact IntWalk.u16_in n ⟨h1, h2⟩
  · exact IntWalk.u32_in n ⟨h1, h2⟩
  · exact IntWalk.u64_in n ⟨h1, h2⟩
theorem i64_of {n : Int} (h1 : -9223372036854775808 ≤ n) (h2 : n ≤ 9223372036854775807) : IntKind.i64.wrap n = n := wrap_of h1 h2
theorem i32_of {n : Int} (h1 : -2147483648 ≤ n) (h2 : n ≤ 2147483647) : IntKind.i32.wrap n = n := wrap_of h1 h2
theorem beq_cast (a b : Nat) : ((a : Int) == (b : Int)) = (a == b) := by
  by_cases e : a = b
  · simp [e]
  · have : (a : Int) ≠ b := fun h => e (by omega)
    rw [beq_eq_false_iff_ne.2 e, beq_eq_false_iff_ne.2 this]
theorem bne_cast (a b : Nat) : ((a : Int) != (b : Int)) = (a != b) := by
  simp only [bne, beq_cast]
theorem d_lt {i n : Nat} (h : i < n) : decide ((i : Int) < (n : Int)) = true := decide_eq_true (by omega)
theorem d_nlt {i n : Nat} (h : ¬ i < n) : decide ((i : Int) < (n : Int)) = false := decide_eq_false (by omega)
theorem d_0 (i : Nat) : decide (0 ≤ (i : Int)) = true := decide_eq_true (by omega)
theorem d_t {p : Prop} [Decidable p] (h : p) : decide p = true := decide_eq_true h
theorem d_f {p : Prop} [Decidable p] (h : ¬ p) : decide p = false := decide_eq_false h
theorem blt_t {i n : Nat} (h : i < n) : Nat.blt i n = true := by rw [Nat.blt_eq]; exact h
theorem get_lt {α : Type} {xs : List α} {i : Nat} (h : i < xs.length) : xs[i]? = some (xs[i]'h) := List.getElem?_eq_getElem h
theorem take_one {α : Type} {xs : List α} {i : Nat} (h : i < xs.length) : xs.take (i + 1) = xs.take i ++ [xs[i]'h] := by
  rw [List.take_add_one, get_lt h]; rfl
/-- A list that is copied place by place. -/
theorem copy_step {α : Type} {xs ys : List α} {i n : Nat} {z : α} (hn : i < xs.length) (h : ys = xs.take i ++ List.replicate (n - i) z) (hx : n = xs.length) : ys.set i (xs[i]'hn) = xs.take (i + 1) ++ List.replicate (n - (i + 1)) z := by
  subst h
  have hl : (xs.take i).length = i := by rw [List.length_take]; omega
  rw [List.set_append, if_neg (by omega), hl, Nat.sub_self, take_one hn]
  have : n - i = (n - (i + 1)) + 1 := by omega
  rw [this, List.replicate_succ, List.set_cons_zero, List.append_assoc]
  rfl
/-- A function whose guard never holds. -/
theorem fnOk_never {P : Program} {k : FuncId} {l : List AT} {gd : ADen l → Bool} {f : ADen l → V} (h : ∀ x : ADen l, gd x = false) : FnOk P k (semG l gd f) := by
  intro args K hk
  simp only [semG] at hk
  split at hk
  · rename_i x _
    simp only [h x, cond_false] at hk
  · exact hk.elim
end Go.Ev
