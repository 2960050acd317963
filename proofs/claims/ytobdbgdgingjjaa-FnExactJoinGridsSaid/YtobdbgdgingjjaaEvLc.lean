/- Calls that write one box leave all other boxes alone. -/
import Derived.Test.YtobdbgdgingjjaaEvDef
set_option linter.unusedVariables false
set_option linter.unusedSimpArgs false
namespace Go.Ev

/-- All boxes but one are as they were. -/
def BoxesStay (id : Nat) (H H' : Heap) : Prop := ∀ j, j ≠ id → ∀ cells, H[j]? = some (.box cells) → H'[j]? = some (.box cells)
theorem BoxesStay.refl (id : Nat) (H : Heap) : BoxesStay id H H := fun _ _ _ h => h
theorem BoxesStay.trans {id : Nat} {H H' H'' : Heap} (h : BoxesStay id H H') (h' : BoxesStay id H' H'') : BoxesStay id H H'' := fun j hj c hc => h' j hj c (h j hj c hc)
theorem BoxesStay.app (id : Nat) (H X : Heap) : BoxesStay id H (H ++ X) := fun j _ c hc => by
  rw [List.getElem?_append_left]
  · exact hc
  · rcases Nat.lt_or_ge j H.length with h' | h'
    · exact h'
    · rw [List.getElem?_eq_none h'] at hc; cases hc
theorem BoxesStay.set (id : Nat) (H : Heap) (o : Ob) : BoxesStay id H (H.set id o) := fun j hj c hc => by
  rw [List.getElem?_set_ne (by omega)]; exact hc
theorem freeze1_boxes {H H' : Heap} {v v' : V} (h : freeze1 H v = some (H', v')) (id : Nat) : BoxesStay id H H' := by
  have still : ∀ {a : V}, (bif immut v then some (H, v) else none) = some (H', v') → BoxesStay id H H' := by
    intro a h
    cases hi : immut v with
    | true => rw [hi] at h; cases h; exact .refl _ _
    | false => rw [hi] at h; cases h
  cases v <;> simp only [freeze1] at h <;> try exact still (a := .undef) h
  rename_i k ver
  split at h
  · rename_i ver' t xs hk
    cases hb : Nat.beq ver ver' with
    | false => rw [hb] at h; cases h
    | true =>
      rw [hb] at h
      cases h
      intro j _ c hc
      by_cases e : k = j
      · subst e; rw [hk] at hc; cases hc
      · rw [List.getElem?_set_ne e]; exact hc
  · rename_i ver' t xs hk
    cases hb : Nat.beq ver ver' with
    | false => rw [hb] at h; cases h
    | true => rw [hb] at h; cases h; exact .refl _ _
  · cases h
theorem freezes1_boxes : ∀ {vs vs' : List V} {H H' : Heap}, freezes1 H vs = some (H', vs') → ∀ id, BoxesStay id H H'
  | [], _, H, H', h, id => by simp only [freezes1] at h; cases h; exact .refl _ _
  | v :: vs, vs', H, H', h, id => by
    simp only [freezes1] at h
    split at h
    · rename_i H1 u hu
      split at h
      · rename_i H2 us hus
        cases h
        exact (freeze1_boxes hu id).trans (freezes1_boxes hus id)
      · cases h
    · cases h
theorem freeze2_boxes {H H' : Heap} {v v' : V} (h : freeze2 H v = some (H', v')) (id : Nat) : BoxesStay id H H' := by
  cases v <;> simp only [freeze2] at h <;> try exact freeze1_boxes h id
  split at h
  · rename_i H1 us hus
    cases h
    exact freezes1_boxes hus id
  · cases h
theorem freezes2_boxes : ∀ {vs vs' : List V} {H H' : Heap}, freezes2 H vs = some (H', vs') → ∀ id, BoxesStay id H H'
  | [], _, H, H', h, id => by simp only [freezes2] at h; cases h; exact .refl _ _
  | v :: vs, vs', H, H', h, id => by
    simp only [freezes2] at h
    split at h
    · rename_i H1 u hu
      split at h
      · rename_i H2 us hus
        cases h
        exact (freeze2_boxes hu id).trans (freezes2_boxes hus id)
      · cases h
    · cases h

/-- A contract that writes the box that it is handed first, and no other. -/
def LocalS (S : List V → Heap → (V → Heap → Prop) → Prop) : Prop := ∀ id off r H K, S (.ptr id off :: r) H K → S (.ptr id off :: r) H (fun v h => K v h ∧ BoxesStay id H h)
theorem load_stay {C : Ctx} {id : Nat} {H H' : Heap} (hs : BoxesStay id H H') {t : TypeId} {x : V} (hx : farFrom id x = true) {K : V → Prop} (h : loadV C t x H K) : loadV C t x H' K := by
  cases x <;> simp only [farFrom] at hx <;> try (cases hx; done)
  · exact h
  · rename_i j off
    have hj : j ≠ id := fun e => by subst e; simp at hx
    simp only [loadV] at h ⊢
    split at h
    · rename_i cells hid
      rw [hs j hj cells hid]
      exact h
    · exact h.elim
end Go.Ev
