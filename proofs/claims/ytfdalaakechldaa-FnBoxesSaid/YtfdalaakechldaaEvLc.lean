/- Calls that write one box leave all other boxes alone. -/
import Derived.Test.YtfdalaakechldaaEvDef
set_option linter.unusedVariables false
set_option linter.unusedSimpArgs false
namespace Go.Ev

/-- All boxes but one are as they were. -/
def BoxesStay (id : Nat) (H H' : Heap) : Prop := ∀ j, j ≠ id → ∀ cells, H[j]? = some (.box cells) → H'[j]? = some (.box cells)
theorem lt_of_get' {α : Type} {l : List α} {i : Nat} {x : α} (h : l[i]? = some x) : i < l.length := (List.getElem?_eq_some_iff.1 h).1
theorem BoxesStay.refl (id : Nat) (H : Heap) : BoxesStay id H H := fun _ _ _ h => h
theorem BoxesStay.trans {id : Nat} {H H' H'' : Heap} (h : BoxesStay id H H') (h' : BoxesStay id H' H'') : BoxesStay id H H'' := fun j hj c hc => h' j hj c (h j hj c hc)
theorem BoxesStay.app (id : Nat) (H X : Heap) : BoxesStay id H (H ++ X) := fun j _ c hc => by
  rw [List.getElem?_append_left]
  · exact hc
  · rcases Nat.lt_or_ge j H.length with h' | h'
    · exact h'
    · rw [List.getElem?_eq_none h'] at hc; cases hc
theorem BoxesStay.set (id : Nat) (H : Heap) (o : Ob) : BoxesStay id H (H.set id o) := fun j hj c hc => by
  rw [List.getElem?_set_ne (by omega)]; exact hc
theorem freeze1_boxes {H H' : Heap} {v v' : V} (h : freeze1 H v = some (H', v')) (id : Nat) : BoxesStay id H H' := by
  have still : ∀ {a : V}, (bif immut v then some (H, v) else none) = some (H', v') → BoxesStay id H H' := by
    intro a h
    cases hi : immut v with
    | true => rw [hi] at h; cases h; exact .refl _ _
    | false => rw [hi] at h; cases h
  cases v <;> simp only [freeze1] at h <;> try exact still (a := .undef) h
  rename_i k ver
  split at h
  · rename_i ver' t xs hk
    cases hb : Nat.beq ver ver' with
    | false => rw [hb] at h; cases h
    | true =>
      rw [hb] at h
      cases h
      intro j _ c hc
      by_cases e : k = j
      · subst e; rw [hk] at hc; cases hc
      · rw [List.getElem?_set_ne e]; exact hc
  · rename_i ver' t xs hk
    cases hb : Nat.beq ver ver' with
    | false => rw [hb] at h; cases h
    | true => rw [hb] at h; cases h; exact .refl _ _
  · cases h
theorem freezes1_boxes : ∀ {vs vs' : List V} {H H' : Heap}, freezes1 H vs = some (H', vs') → ∀ id, BoxesStay id H H'
  | [], _, H, H', h, id => by simp only [freezes1] at h; cases h; exact .refl _ _
  | v :: vs, vs', H, H', h, id => by
    simp only [freezes1] at h
    split at h
    · rename_i H1 u hu
      split at h
      · rename_i H2 us hus
        cases h
        exact (freeze1_boxes hu id).trans (freezes1_boxes hus id)
      · cases h
    · cases h
theorem freeze2_boxes {H H' : Heap} {v v' : V} (h : freeze2 H v = some (H', v')) (id : Nat) : BoxesStay id H H' := by
  cases v <;> simp only [freeze2] at h <;> try exact freeze1_boxes h id
  split at h
  · rename_i H1 us hus
    cases h
    exact freezes1_boxes hus id
  · cases h
theorem freezes2_boxes : ∀ {vs vs' : List V} {H H' : Heap}, freezes2 H vs = some (H', vs') → ∀ id, BoxesStay id H H'
  | [], _, H, H', h, id => by simp only [freezes2] at h; cases h; exact .refl _ _
  | v :: vs, vs', H, H', h, id => by
    simp only [freezes2] at h
    split at h
    · rename_i H1 u hu
      split at h
      · rename_i H2 us hus
        cases h
        exact (freeze2_boxes hu id).trans (freezes2_boxes hus id)
      · cases h
    · cases h

/-- All boxes are as they were, but that one to which the value points. -/
def StayOf (v : V) (H H' : Heap) : Prop := ∀ j, (∀ off, v ≠ .ptr j off) → ∀ cells, H[j]? = some (.box cells) → H'[j]? = some (.box cells)
theorem StayOf.of {v : V} {H H' : Heap} (h : ∀ id, BoxesStay id H H') : StayOf v H H' := fun j _ c hc => h (j + 1) j (by omega) c hc
theorem StayOf.ptr {id off : Nat} {H H' : Heap} (h : BoxesStay id H H') : StayOf (.ptr id off) H H' := fun j hj c hc => h j (fun e => hj off (by rw [e])) c hc
theorem StayOf.trans {v : V} {H H' H'' : Heap} (h : ∀ id, BoxesStay id H H') (h' : StayOf v H' H'') : StayOf v H H'' := fun j hj c hc => h' j hj c (h (j + 1) j (by omega) c hc)
theorem BoxesStay.set' {H : Heap} {i : Nat} {o : Ob} (h : ∀ cells, H[i]? ≠ some (.box cells)) (id : Nat) : BoxesStay id H (H.set i o) := fun j _ c hc => by
  have : i ≠ j := fun e => by subst e; exact h c hc
  rw [List.getElem?_set_ne this]; exact hc
theorem BoxesStay.kill {H : Heap} (id : Nat) : ∀ {L : List Nat}, (∀ i ∈ L, ∀ cells, H[i]? ≠ some (.box cells)) → BoxesStay id H (kill H L)
  | [], _ => .refl _ _
  | i :: L, h => by
    simp only [Ev.kill]
    intro j hj c hc
    have : i ≠ j := fun e => by subst e; exact h i (by simp) c hc
    rw [List.getElem?_set_ne this]
    exact BoxesStay.kill id (fun i' hi' => h i' (by simp [hi'])) j hj c hc

/-- A contract that writes the box that it is handed first, and no other. -/
def LocalS (S : List V → Heap → (V → Heap → Prop) → Prop) : Prop := ∀ v r H K, S (v :: r) H K → S (v :: r) H (fun u h => K u h ∧ StayOf v H h)
/-- All things are as they were, but that one. -/
def StayE (a : Option Nat) (H H' : Heap) : Prop := ∀ j, a ≠ some j → ∀ o, H[j]? = some o → H'[j]? = some o
theorem StayE.refl (a : Option Nat) (H : Heap) : StayE a H H := fun _ _ _ h => h
theorem StayE.app (a : Option Nat) (H X : Heap) : StayE a H (H ++ X) := fun j _ o h => by
  rw [List.getElem?_append_left (by rcases Nat.lt_or_ge j H.length with c | c; exact c; rw [List.getElem?_eq_none c] at h; cases h)]; exact h
theorem StayE.set (id : Nat) (H : Heap) (o' : Ob) : StayE (some id) H (H.set id o') := fun j hj o h => by
  rw [List.getElem?_set_ne (fun e => hj (by rw [e]))]; exact h
theorem StayE.trans {a : Option Nat} {H H' H'' : Heap} (h : StayE a H H') (h' : StayE a H' H'') : StayE a H H'' := fun j hj o ho => h' j hj o (h j hj o ho)
/-- A contract that changes the one thing that it is handed first, and no other. -/
def LocalE (S : List V → Heap → (V → Heap → Prop) → Prop) : Prop := ∀ v r H K t, touchL false (v :: r) = some t → S (v :: r) H K → S (v :: r) H (fun u h => K u h ∧ StayE t H h)
theorem freeze1_imm {H : Heap} {v : V} (h : immut v = true) : freeze1 H v = some (H, v) := by
  cases v <;> simp only [freeze1] <;> first | (rw [h]; rfl) | (simp [immut] at h)
theorem freezes1_imm : ∀ {vs : List V} {H : Heap}, immuts vs = true → freezes1 H vs = some (H, vs)
  | [], _, _ => rfl
  | v :: vs, H, h => by
    simp only [immuts, Bool.and_eq_true] at h
    simp only [freezes1, freeze1_imm h.1, freezes1_imm h.2]
theorem freeze2_imm {H : Heap} {v : V} (h : immut v = true) : freeze2 H v = some (H, v) := by
  cases v with
  | agg vs => simp only [freeze2, freezes1_imm (show immuts vs = true by simpa [immut] using h)]
  | _ => exact freeze1_imm h
theorem freezes2_imm : ∀ {vs : List V} {H : Heap}, immuts vs = true → freezes2 H vs = some (H, vs)
  | [], _, _ => rfl
  | v :: vs, H, h => by
    simp only [immuts, Bool.and_eq_true] at h
    simp only [freezes2, freeze2_imm h.1, freezes2_imm h.2]
/-! reads of a thing that stays -/
theorem loadV_keep {C : Ctx} {t : TypeId} {v : V} {H H' : Heap} (hk : ∀ id, idOf v = some id → ∀ o, H[id]? = some o → H'[id]? = some o) {K : V → Prop} (h : loadV C t v H K) : loadV C t v H' K := by
  cases v <;> simp only [loadV] at h ⊢ <;> first
    | exact h
    | (rename_i id off
       cases e : H[id]? with
       | none => simp only [e] at h
       | some o => rw [hk id rfl o e]; simp only [e] at h; exact h)
    | (rename_i id ver i off
       cases e : H[id]? with
       | none => simp only [e] at h
       | some o => rw [hk id rfl o e]; simp only [e] at h; exact h)
theorem lenV_keep {v : V} {H H' : Heap} (hk : ∀ id, idOf v = some id → ∀ o, H[id]? = some o → H'[id]? = some o) {K : V → Prop} (h : lenV v H K) : lenV v H' K := by
  cases v <;> simp only [lenV] at h ⊢ <;> first
    | exact h
    | (rename_i id ver
       cases e : H[id]? with
       | none => simp only [e] at h
       | some o => rw [hk id rfl o e]; simp only [e] at h; exact h)
theorem indexAddrV_keep {C : Ctx} {t : TypeId} {v ix : V} {H H' : Heap} (hk : ∀ id, idOf v = some id → ∀ o, H[id]? = some o → H'[id]? = some o) {K : V → Prop} (h : indexAddrV C t v ix H K) : indexAddrV C t v ix H' K := by
  unfold indexAddrV at h ⊢
  cases ix with
  | int k n =>
    dsimp only at h ⊢
    split at h
    · rename_i e0 hd
      cases hb : (Nat.beq (C.ti e0).size (C.ti t).ty.size && !Nat.beq (C.ti e0).size 0) with
      | false => simp only [hb, cond_false] at h
      | true =>
        simp only [hb, cond_true] at h ⊢
        cases v with
        | obj id ver =>
          dsimp only at h ⊢
          cases e : H[id]? with
          | none => simp only [e] at h
          | some o => rw [hk id rfl o e]; rw [e] at h; exact h
        | dob id ver =>
          dsimp only at h ⊢
          cases e : H[id]? with
          | none => simp only [e] at h
          | some o => rw [hk id rfl o e]; rw [e] at h; exact h
        | _ => exact h
    · rename_i len e0 hd
      exact h
    · exact h.elim
  | _ => exact h.elim
theorem load_stay {C : Ctx} {a : V} {H H' : Heap} (hs : StayOf a H H') {t : TypeId} {x : V} (hx : farA a x = true) {K : V → Prop} (h : loadV C t x H K) : loadV C t x H' K := by
  cases x <;> simp only [farA] at hx <;> try (cases hx; done)
  · exact h
  · rename_i j off
    have hj : ∀ off, a ≠ .ptr j off := fun off e => by subst e; simp at hx
    simp only [loadV] at h ⊢
    split at h
    · rename_i cells hid
      rw [hs j hj cells hid]
      exact h
    · exact h.elim

theorem of_cond {b : Bool} {P : Prop} (h : cond b P False) : P := by cases b with | true => exact h | false => exact h.elim

/-! operations that write slices alone -/
theorem appendDV_stay {C : Ctx} {t e : TypeId} {x : V} {j ver : Nat} {H H' : Heap} {u : V} (h : appendDV C t e x j ver H (fun v h => v = u ∧ h = H')) (id : Nat) : BoxesStay id H H' := by
  unfold appendDV at h
  split at h
  · rename_i ver2' iv t2 y0 r hj
    have nj : ∀ cells, H[j]? ≠ some (.box cells) := fun c e => by rw [hj] at e; cases e
    replace h := of_cond h
    split at h
    · split at h
      · replace h := of_cond h
        rw [← h.2]
        exact (BoxesStay.set' nj id).trans (.app _ _ _)
      · rename_i id' ver'
        split at h
        · rename_i ver3 iv3 t' xs hid
          have ni : ∀ cells, (H.set j .dead)[id']? ≠ some (.box cells) := fun c e => by
            by_cases hji : j = id'
            · subst hji
              rw [List.getElem?_set_self (lt_of_get' hj)] at e; cases e
            · rw [List.getElem?_set_ne hji, hid] at e; cases e
          replace h := of_cond h
          split at h
          · replace h := of_cond h
            rw [← h.2]
            exact (BoxesStay.set' nj id).trans (BoxesStay.set' ni id)
          · exact h.elim
        · exact h.elim
      · exact h.elim
    · exact h.elim
  · exact h.elim
theorem appendV_stay {C : Ctx} {t : TypeId} {x y : V} {H H' : Heap} {u : V} (h : appendV C t x y H (fun v h => v = u ∧ h = H')) (id : Nat) : BoxesStay id H H' := by
  unfold appendV at h
  split at h
  · rename_i e he
    replace h := of_cond h
    split at h
    · exact appendDV_stay h id
    · split at h
      · exact h.elim
      · rename_i ys hys
        split at h
        · replace h := of_cond h
          rw [← h.2]
          exact .app _ _ _
        · replace h := of_cond h
          rw [← h.2]
          exact .app _ _ _
        · rename_i id' ver'
          split at h
          · rename_i ver2 t' xs hid
            have ni : ∀ cells, H[id']? ≠ some (.box cells) := fun c e => by rw [hid] at e; cases e
            replace h := of_cond h
            split at h
            · replace h := of_cond h
              rw [← h.2]
              exact BoxesStay.set' ni id
            · exact h.elim
          · exact h.elim
        · exact h.elim
  · exact h.elim
theorem appendZ_stay {C : Ctx} {t u' : TypeId} {x y : V} {H H' : Heap} {u : V} (h : appendZ C t u' x y H (fun v h => v = u ∧ h = H')) (id : Nat) : BoxesStay id H H' := by
  unfold appendZ at h
  split at h
  · split at h
    · replace h := of_cond h
      split at h
      · split at h
        · split at h
          · replace h := of_cond h
            rw [← h.2]
            exact .app _ _ _
          · exact h.elim
        · exact h.elim
      · exact h.elim
    · exact h.elim
  · exact h.elim
theorem decOw_things {H : Heap} : ∀ {t : Ty} {vs r : List V} {x : t.den} {L : List Nat}, decOw H t vs = some (x, L, r) → ∀ i ∈ L, ∀ cells, H[i]? ≠ some (.box cells) := by
  intro t
  induction t with
  | pair a b iha ihb =>
    intro vs r x L h i hi
    simp only [decOw] at h
    split at h
    · rename_i y L1 r1 e1
      split at h
      · rename_i z L2 r2 e2
        cases h
        rcases List.mem_append.1 hi with k | k
        · exact iha e1 i k
        · exact ihb e2 i k
      · cases h
    · cases h
  | slice e ih =>
    intro vs r x L h i hi
    cases vs with
    | nil => simp only [decOw, reduceCtorEq] at h
    | cons v vs =>
      simp only [decOw] at h
      split at h
      · generalize Nat.blt _ _ = d at h
        cases d with
        | false => cases h
        | true => cases h; cases hi
      · split at h
        · rename_i hj
          generalize (Nat.beq _ _ && _) = d at h
          cases d with
          | false => cases h
          | true =>
            simp only [cond_true] at h
            split at h
            · cases h
              simp only [List.mem_singleton] at hi
              subst hi
              intro c e; rw [hj] at e; cases e
            · cases h
        · cases h
      · split at h
        · rename_i hj
          generalize Nat.beq _ _ = d at h
          cases d with
          | false => cases h
          | true =>
            simp only [cond_true] at h
            split at h
            · cases h
              simp only [List.mem_singleton] at hi
              subst hi
              intro c e; rw [hj] at e; cases e
            · cases h
        · cases h
      · cases h
  | _ =>
    intro vs r x L h i hi
    simp only [decOw] at h
    split at h
    · cases h; cases hi
    · cases h
theorem decOwN_things {H : Heap} {t : Ty} : ∀ {n : Nat} {vs : List V} {xs : List t.den} {L : List Nat}, decOwN H t n vs = some (xs, L) → ∀ i ∈ L, ∀ cells, H[i]? ≠ some (.box cells)
  | 0, [], _, _, h, i, hi => by simp only [decOwN] at h; cases h; cases hi
  | 0, _ :: _, _, _, h, i, hi => by simp only [decOwN, reduceCtorEq] at h
  | n + 1, vs, _, _, h, i, hi => by
    simp only [decOwN] at h
    split at h
    · rename_i y L1 r1 e1
      split at h
      · rename_i z L2 e2
        cases h
        rcases List.mem_append.1 hi with k | k
        · exact decOw_things e1 i k
        · exact decOwN_things e2 i k
      · cases h
    · cases h
theorem buildSliceV_stay {C : Ctx} {t : TypeId} {len : Nat} {ps : List (Nat × V)} {H H' : Heap} {u : V} (h : buildSliceV C t len ps H (fun v h => v = u ∧ h = H')) (id : Nat) : BoxesStay id H H' := by
  unfold buildSliceV at h
  split at h
  · rename_i e he
    replace h := of_cond h
    split at h
    · cases hdr : (C.dr && Nat.beq len 0) with
      | true =>
        simp only [hdr, cond_true] at h
        rw [← h.2]
        exact .refl _ _
      | false =>
      simp only [hdr, cond_false] at h
      cases hdv : (C.dr && (C.mv && flatTy (C.ti t).ty)) with
      | true =>
        simp only [hdv, cond_true] at h
        split at h
        · rw [← h.2]; exact .refl _ _
        · exact h.elim
      | false =>
      simp only [hdv, cond_false] at h
      cases hd : (C.deep && !flatTy (C.ti t).ty) with
      | true =>
        simp only [hd, cond_true] at h
        split at h
        · rename_i xs L hdec
          replace h := of_cond h
          rw [← h.2]
          exact (BoxesStay.kill id (decOwN_things hdec)).trans (.app _ _ _)
        · exact h.elim
      | false =>
        simp only [hd, cond_false] at h
        split at h
        · rw [← h.2]; exact .app _ _ _
        · exact h.elim
    · exact h.elim
  · exact h.elim
end Go.Ev
