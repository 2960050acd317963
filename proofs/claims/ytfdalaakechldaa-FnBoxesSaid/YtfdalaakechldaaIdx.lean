/- Where something is in a list. -/
import Derived.Test.YtfdalaakechldaaPre
set_option linter.unusedVariables false
set_option linter.unusedSimpArgs false
set_option maxRecDepth 100000
namespace Go.Proofs.Ytfdalaakechldaa
open Go.Ev

--B idxF {α : Type} → (α → Bool) → List α → Int
def idxF {α : Type} (p : α → Bool) (xs : List α) : Int := bif xs.any p then (xs.findIdx p : Int) else -1
theorem idxF_none {α : Type} {p : α → Bool} {xs : List α} (h : xs.any p = false) : idxF p xs = -1 := by unfold idxF; rw [h]; rfl
theorem idxF_hit {α : Type} {p : α → Bool} {xs : List α} {i : Nat} (hi : i < xs.length) (h : (xs.take i).any p = false) (hp : p (xs[i]'hi) = true) : idxF p xs = i := by
  have ha : xs.any p = true := List.any_eq_true.2 ⟨_, List.getElem_mem hi, hp⟩
  unfold idxF
  rw [ha]
  simp only [cond_true]
  have : xs.findIdx p = i := by
    rw [List.findIdx_eq hi]
    refine ⟨hp, fun j hj => ?_⟩
    have h1 : xs[j]'(by omega) ∈ xs.take i := List.mem_iff_getElem?.2 ⟨j, by rw [List.getElem?_take, if_pos hj]; exact List.getElem?_eq_getElem (by omega)⟩
    have := List.any_eq_false.1 h _ h1
    simpa using this
  rw [this]
theorem any_snoc {α : Type} {f : α → Bool} {xs : List α} {i : Nat} (hi : i < xs.length) (h : (xs.take i).any f = false) (hp : f (xs[i]'hi) = false) : (xs.take (i + 1)).any f = false := by
  rw [take_one hi, List.any_append, h]
  simp [hp]
theorem idxF_ge {α : Type} (p : α → Bool) (xs : List α) : decide (idxF p xs ≥ 0) = xs.any p := by
  unfold idxF
  cases xs.any p with
  | true => simp only [cond_true]; exact decide_eq_true (by omega)
  | false => simp only [cond_false]; exact decide_eq_false (by omega)


end Go.Proofs.Ytfdalaakechldaa
