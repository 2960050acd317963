/- Vectors and lists: equality, copies, sizes. -/
import Derived.Test.YtoaholifeklhaaaDoorPre
set_option linter.unusedVariables false
set_option linter.unusedSimpArgs false
set_option maxRecDepth 100000
namespace Go.Proofs.YtoaholifeklhaaaDoor
open Go.Ev
abbrev tI : Ty := .int .i64

/-! sizes -/
--B szV Int → Nat → Int
def szV (n : Int) (w : Nat) : Int := bif decide (n - (w : Int) < 0) then (-1) else n - w
theorem szV_no {n : Int} {w : Nat} (h : n - (w : Int) < 0) : szV n w = -1 := by unfold szV; rw [d_t h]; rfl
theorem szV_ok {n : Int} {w : Nat} (h : 0 ≤ n - (w : Int)) : szV n w = n - w := by unfold szV; rw [d_f (by omega)]; rfl
--B wList {α : Type} → (α → Nat) → List α → Nat
def wList {α : Type} (w : α → Nat) (xs : List α) : Nat := xs.length + (xs.map w).sum
theorem wList_ge {α : Type} (w : α → Nat) (xs : List α) : xs.length ≤ wList w xs := by unfold wList; omega
theorem sum_take {α : Type} (w : α → Nat) {xs : List α} {i : Nat} (hi : i < xs.length) : ((xs.take (i + 1)).map w).sum = ((xs.take i).map w).sum + w (xs[i]'hi) := by
  rw [take_one hi, List.map_append, List.sum_append]
  simp
theorem sum_le {α : Type} (w : α → Nat) : ∀ (xs : List α) (i : Nat), ((xs.take i).map w).sum ≤ (xs.map w).sum
  | [], i => by simp
  | x :: xs, 0 => by simp
  | x :: xs, i + 1 => by
    have := sum_le w xs i
    simp only [List.take_succ_cons, List.map_cons, List.sum_cons]
    omega
theorem mem_le {α : Type} (w : α → Nat) {xs : List α} {x : α} (h : x ∈ xs) : w x ≤ (xs.map w).sum := by
  induction xs with
  | nil => cases h
  | cons y xs ih =>
    simp only [List.map_cons, List.sum_cons]
    rcases List.mem_cons.1 h with e | e
    · subst e; omega
    · have := ih e; omega
























end Go.Proofs.YtoaholifeklhaaaDoor
