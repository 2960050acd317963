/- Shapes that one owns, with their numbers: made, marked, and found marked. -/
import Derived.Test.YtmkomfhnomnbiaaShapes
set_option linter.unusedVariables false
set_option linter.unusedSimpArgs false
set_option maxRecDepth 100000
namespace Go.Proofs.Ytmkomfhnomnbiaa
open Go.Ev

/-! plain -/
--B markF Int → Nat → List Nat
def markF (k : Int) (n : Nat) : List Nat := (List.range n).map fun (i : Nat) => FloatKind.f32.nearest (k + (i : Int))
theorem markF_len (k : Int) (n : Nat) : (markF k n).length = n := by simp [markF]
theorem markF_get (k : Int) {n i : Nat} (h : i < n) : (markF k n)[i]'(by rw [markF_len]; exact h) = FloatKind.f32.nearest (k + i) := by simp [markF]
theorem over_step {α : Type} {zs xs : List α} {i : Nat} (hz : i < zs.length) (hx : i < xs.length) : (zs.take i ++ xs.drop i).set i (zs[i]'hz) = zs.take (i + 1) ++ xs.drop (i + 1) := by
  have hl : (zs.take i).length = i := by rw [List.length_take]; omega
  rw [List.set_append, if_neg (by omega), hl, Nat.sub_self, take_one hz, List.drop_eq_getElem_cons hx, List.set_cons_zero, List.append_assoc]
  rfl
theorem over_get {α : Type} {zs xs : List α} {i : Nat} (hz : i ≤ zs.length) (hx : i < xs.length) : (zs.take i ++ xs.drop i)[i]? = some (xs[i]'hx) := by
  have hl : (zs.take i).length = i := by rw [List.length_take]; omega
  rw [List.getElem?_append_right (by omega), hl, Nat.sub_self, List.getElem?_drop, Nat.add_zero, List.getElem?_eq_getElem hx]

/-! marks of a list, one behind the other -/
--B markL {α : Type} → (Int → α → α) → (α → Nat) → Int → List α → List α
def markL {α : Type} (mk : Int → α → α) (w : α → Nat) : Int → List α → List α
  | _, [] => []
  | k, x :: r => mk k x :: markL mk w (k + w x) r
--B sumW {α : Type} → (α → Nat) → List α → Nat
def sumW {α : Type} (w : α → Nat) (xs : List α) : Nat := (xs.map w).sum
theorem markL_len {α : Type} (mk : Int → α → α) (w : α → Nat) : ∀ (xs : List α) (k : Int), (markL mk w k xs).length = xs.length
  | [], _ => rfl
  | x :: r, k => by simp only [markL, List.length_cons, markL_len mk w r]
theorem markL_get {α : Type} (mk : Int → α → α) (w : α → Nat) : ∀ (xs : List α) (k : Int) (i : Nat) (h : i < xs.length), (markL mk w k xs)[i]'(by rw [markL_len]; exact h) = mk (k + sumW w (xs.take i)) (xs[i]'h)
  | [], _, i, h => by simp at h
  | x :: r, k, 0, h => by simp [markL, sumW]
  | x :: r, k, i + 1, h => by
    simp only [markL, List.getElem_cons_succ, List.take_succ_cons]
    rw [markL_get mk w r (k + w x) i (by simpa using h)]
    congr 1
    simp only [sumW, List.map_cons, List.sum_cons]
    omega
theorem markL_idem {α : Type} {mk : Int → α → α} {w : α → Nat} (h1 : ∀ k x, mk k (mk k x) = mk k x) (h2 : ∀ k x, w (mk k x) = w x) : ∀ (xs : List α) (k : Int), markL mk w k (markL mk w k xs) = markL mk w k xs
  | [], _ => rfl
  | x :: r, k => by simp only [markL, h1, h2, markL_idem h1 h2 r]
theorem sumW_markL {α : Type} {mk : Int → α → α} {w : α → Nat} (h2 : ∀ k x, w (mk k x) = w x) : ∀ (xs : List α) (k : Int), sumW w (markL mk w k xs) = sumW w xs
  | [], _ => rfl
  | x :: r, k => by
    have := sumW_markL h2 r (k + w x)
    simp only [markL, sumW, List.map_cons, List.sum_cons, h2] at this ⊢
    omega
theorem sumW_take {α : Type} (w : α → Nat) {xs : List α} {i : Nat} (hi : i < xs.length) : sumW w (xs.take (i + 1)) = sumW w (xs.take i) + w (xs[i]'hi) := by
  unfold sumW
  rw [take_one hi, List.map_append, List.sum_append]
  simp
theorem sumW_le {α : Type} (w : α → Nat) (xs : List α) (i : Nat) : sumW w (xs.take i) ≤ sumW w xs := sum_le w xs i
theorem len_sumW {α : Type} {w : α → Nat} (h : ∀ x, 1 ≤ w x) : ∀ xs : List α, xs.length ≤ sumW w xs
  | [] => Nat.zero_le _
  | x :: r => by
    have := len_sumW h r
    have := h x
    simp only [sumW, List.map_cons, List.sum_cons, List.length_cons] at *
    omega




--B mkN Int → NodeD → NodeD
def mkN (k : Int) (x : NodeD) : NodeD := (k, k + 1, k + 2, markF (k + 3) x.2.2.2.length)
--B wN NodeD → Nat
def wN (x : NodeD) : Nat := 3 + x.2.2.2.length
theorem wN_pos (x : NodeD) : 1 ≤ wN x := by unfold wN; omega
theorem putN (x : NodeD) (ys : List Nat) : putAt tN x 3 tF ys = (x.1, x.2.1, x.2.2.1, ys) := rfl

abbrev pN : List Po := [.imm tI, .imm tI, .imm tI, .own tF]




end Go.Proofs.Ytmkomfhnomnbiaa
