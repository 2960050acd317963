/- Calls; and each operation as a whole. -/
import Derived.Test.YthcpcfgjalpnkaaEvMem2
import Derived.Test.YthcpcfgjalpnkaaEvAng
set_option linter.unusedVariables false
set_option linter.unusedSimpArgs false
namespace Go.Ev

/-- A call of a function, with a body or without. -/
def CallsX (P : Program) (f : FuncId) (args : Array Value) (w : World) (R : Value → World → Prop) : Prop :=
  (∃ v w', (callFunc f args).run P w = .ok (.value v) w' ∧ R v w') ∨
  ((callFunc f args).run P w = .ok (.enter f args) w ∧ Calls P f args w (fun e w' => ∃ v, e = .returned v ∧ R v w'))

theorem CallsX.mono {P : Program} {f : FuncId} {args : Array Value} {w : World} {R R' : Value → World → Prop} (h : CallsX P f args w R) (hr : ∀ v w', R v w' → R' v w') : CallsX P f args w R' := by
  rcases h with ⟨v, w', h1, h2⟩ | ⟨h1, h2⟩
  · exact .inl ⟨v, w', h1, hr _ _ h2⟩
  · exact .inr ⟨h1, h2.mono fun e w' ⟨v, e1, e2⟩ => ⟨v, e1, hr _ _ e2⟩⟩

/-- Nothing that was there is touched. -/
structure Frame0 (w w' : World) (M M' : Mem) : Prop where
  size : w.heap.size ≤ w'.heap.size
  keep : ∀ b, b < w.heap.size → w'.heap[b]? = w.heap[b]?
  mle : ∀ b cs, M b = some cs → M' b = some cs
  mnew : ∀ b cs, M' b = some cs → M b = some cs ∨ w.heap.size ≤ b
  os : w'.os = w.os
  tape : w'.tape = w.tape
  output : w'.output = w.output

/-- What a function does, as the evaluator takes it. -/
def FnOk (P : Program) (k : FuncId) (sem : List V → Heap → (V → Heap → Prop) → Prop) : Prop :=
  ∀ args K, sem args [] K → ∃ v, K v [] ∧ (∀ K' : V → Heap → Prop, K' v [] → sem args [] K') ∧
    ∀ (w : World) (M : Mem) (cargs : List Value), VRs [] M args cargs → MemOk M w →
      CallsX P k cargs.toArray w fun val w' => ∃ M', VR [] M' v val ∧ MemOk M' w' ∧ Frame0 w w' M M'

def CallsOk (P : Program) (C : Ctx) : Prop := ∀ k, FnOk P k (C.call k)

theorem CallsOk.ang {P : Program} {C : Ctx} (h : CallsOk P C) : CallAng C := fun f args K hk => by
  obtain ⟨v, h1, h2, _⟩ := h f args K hk
  exact ⟨v, h1, h2⟩

theorem ObOk.frame {g g' : List G} {M M' : Mem} {w w' : World} {o : Ob} {x : G} (E : Ext g M g' M') (hb : ∀ b, ownB o x = some b → w'.heap[b]? = w.heap[b]? ∧ M' b = none) (h : ObOk g M w o x) : ObOk g' M' w' o x := by
  cases o <;> cases x <;> simp only [ObOk] at h ⊢ <;> try exact h
  · obtain ⟨c, T, fz, h1, h2, h3, h4⟩ := h
    exact ⟨c, T, fz, (hb _ rfl).1.trans h1, h2.mono E, h3, (hb _ rfl).2⟩
  · obtain ⟨h1, h2, h3, h4⟩ := h
    refine ⟨h1, h2, h3, h4.imp id ?_⟩
    rintro ⟨b, cap, c, T, fz, rfl, k2, k3, k4, k5, k6, k7⟩
    exact ⟨b, cap, c, T, fz, rfl, (hb b rfl).1.trans k2, k3, k4, fun i x hx => (k5 i x hx).mono E, k6, (hb b rfl).2⟩
  · exact ⟨h.1, h.2.1, h.2.2.mono E⟩

theorem Ext.mem {g : List G} {M M' : Mem} (h : ∀ b cs, M b = some cs → M' b = some cs) : Ext g M g M' := ⟨fun _ x hx => ⟨x, hx, Gle.refl x⟩, h⟩
theorem Ext.nil {g : List G} {M : Mem} : Ext [] M g M := ⟨fun _ x hx => by simp at hx, fun _ _ h => h⟩

theorem HR.frame {H : Heap} {g : List G} {M M' : Mem} {w w' : World} (h : HR H g M w) (F : Frame0 w w' M M') (hm : MemOk M' w') : HR H g M' w' :=
  ⟨h.len, fun id o x h1 h2 => (h.ob id o x h1 h2).frame (Ext.mem F.mle) fun b hb => by
    obtain ⟨k1, k2⟩ := Ev.own_lt (h.ob id o x h1 h2) hb
    refine ⟨F.keep b k1, ?_⟩
    cases e : M' b with
    | none => rfl
    | some cs =>
      rcases F.mnew b cs e with k | k
      · rw [k2] at k; cases k
      · omega, h.apart, hm⟩

theorem Base.frame {w0 : World} {M0 : Mem} {own0 : Nat → Prop} {H : Heap} {g : List G} {M M' : Mem} {w w' : World} (h : Base w0 M0 own0 H g M w) (F : Frame0 w w' M M') : Base w0 M0 own0 H g M' w' := by
  have hs := h.size
  have hs' := F.size
  refine ⟨by omega, fun b h1 h2 => (F.keep b (by omega)).trans (h.keep b h1 h2), h.own, fun b cs hb => F.mle b cs (h.mle b cs hb), ?_, F.os.trans h.os, F.tape.trans h.tape, F.output.trans h.output⟩
  intro b cs hb
  rcases F.mnew b cs hb with k | k
  · exact h.mnew b cs k
  · exact .inr (.inr (by omega))

/-- The owned blocks too, as blocks that nobody writes for a while. -/
noncomputable def memAll (H : Heap) (g : List G) (M : Mem) (w : World) : Mem := fun b =>
  match M b with
  | some cs => some cs
  | none => open Classical in if Own H g b then (match w.heap[b]? with | some (.cells c _ _) => some c.toList | _ => none) else none

theorem memAll_le (H : Heap) (g : List G) (M : Mem) (w : World) : ∀ b cs, M b = some cs → memAll H g M w b = some cs := by
  intro b cs h
  simp [memAll, h]
theorem memAll_own {H : Heap} {g : List G} {M : Mem} {w : World} (hr : HR H g M w) {b : Nat} {c : Array Value} {T : TypeId} {fz : Nat × Nat} (ho : Own H g b) (hc : w.heap[b]? = some (.cells c T fz)) : memAll H g M w b = some c.toList := by
  have := (hr.own_lt ho).2
  simp [memAll, this, ho, hc]
theorem memAll_ok {H : Heap} {g : List G} {M : Mem} {w : World} (hr : HR H g M w) : MemOk (memAll H g M w) w := by
  intro b cs h
  unfold memAll at h
  split at h
  · rename_i cs' hm
    cases h
    exact hr.mem b _ hm
  · split at h
    · split at h
      · rename_i c T fz hc
        cases h
        exact ⟨c, T, fz, hc, rfl⟩
      · cases h
    · cases h

section
variable {g : List G} {M : Mem} {w : World} {H : Heap}
theorem vec_of_sl (hr : HR H g M w) {id : Nat} {ver : Nat} {t : Ty} {xs : List t.den} {h : Value} {ver' sz : Nat} (h1 : H[id]? = some (.sl ver t xs)) (h2 : g[id]? = some (.sl h ver' sz)) : VR [] (memAll H g M w) (.vec t xs) h := by
  have ho := hr.ob id _ _ h1 h2
  simp only [ObOk] at ho
  obtain ⟨_, _, hlen, ho⟩ := ho
  rcases ho with ⟨rfl, rfl⟩ | ⟨b, cap, c, T, fz, rfl, k2, k3, k4, k5, k6, k7⟩
  · exact .vecnil t none 0
  · refine .vec t xs b 0 _ cap c.toList (memAll_own hr ⟨id, _, _, h1, h2, rfl⟩ k2) ⟨rfl, hlen.2⟩ k3 fun i x hx => ?_
    have := (k5 i x hx).mono (Ext.mem (memAll_le H g M w))
    rw [Nat.zero_add]
    exact this.imm (immuts_enc t x)

theorem vec_of_fz (hr : HR H g M w) {id : Nat} {ver : Nat} {t : Ty} {xs : List t.den} {h : Value} {ver' sz : Nat} (h1 : H[id]? = some (.fz ver t xs)) (h2 : g[id]? = some (.sl h ver' sz)) : VR [] (memAll H g M w) (.vec t xs) h := by
  have ho := hr.ob id _ _ h1 h2
  simp only [ObOk] at ho
  exact (ho.2.2.mono (Ext.mem (memAll_le H g M w))).imm rfl

theorem g_of (hr : HR H g M w) {id : Nat} {o : Ob} (h : H[id]? = some o) : ∃ x, g[id]? = some x ∧ ObOk g M w o x := by
  have hl := lt_of_get h
  rw [hr.len] at hl
  exact ⟨g[id], List.getElem?_eq_getElem hl, hr.ob id o _ h (List.getElem?_eq_getElem hl)⟩

theorem view1_sound (hr : HR H g M w) {v v' : V} {c : Value} (hv : VR g M v c) (h : view1 H v = some v') : VR [] (memAll H g M w) v' c := by
  have E : Ext g M g (memAll H g M w) := Ext.mem (memAll_le H g M w)
  have imm : ∀ {u : V}, u = v → immut u = true → VR [] (memAll H g M w) u c := fun e hi => by subst e; exact (hv.mono E).imm hi
  cases v <;> simp only [view1] at h
  case obj id ver =>
    cases hv with
    | obj _ _ ver' sz hh _ h1 h2 h3 h4 =>
      split at h
      · rename_i ver2 t xs hid
        have ho := hr.ob id _ _ hid h1
        simp only [ObOk] at ho
        cases hb : Nat.beq ver ver2 with
        | false => simp [hb] at h
        | true =>
          simp only [hb, cond_true, Option.some.injEq] at h
          subst h
          rw [h3 (by rw [ho.1]; exact beq_true hb)]
          exact vec_of_sl hr hid h1
      · rename_i ver2 t xs hid
        have ho := hr.ob id _ _ hid h1
        simp only [ObOk] at ho
        cases hb : Nat.beq ver ver2 with
        | false => simp [hb] at h
        | true =>
          simp only [hb, cond_true, Option.some.injEq] at h
          subst h
          rw [h3 (by rw [ho.1]; exact beq_true hb)]
          exact vec_of_fz hr hid h1
      · cases h
  case ptr => cases h
  case eptr => cases h
  case agg vs =>
    cases hi : immuts vs <;> simp [hi] at h
    subst h
    exact imm rfl (by simpa [immut] using hi)
  case tuple vs =>
    cases hi : immuts vs <;> simp [hi] at h
    subst h
    exact imm rfl (by simpa [immut] using hi)
  case fn f vs =>
    cases hi : immuts vs <;> simp [hi] at h
    subst h
    exact imm rfl (by simpa [immut] using hi)
  case ref vs o =>
    cases hi : immuts vs <;> simp [hi] at h
    subst h
    exact imm rfl (by simpa [immut] using hi)
  all_goals
    cases h
    exact imm rfl rfl

theorem views1_sound (hr : HR H g M w) : ∀ {vs vs' : List V} {cs : List Value}, VRs g M vs cs → views1 H vs = some vs' → VRs [] (memAll H g M w) vs' cs
  | _, _, _, .nil, h => by simp only [views1, Option.some.injEq] at h; subst h; exact .nil
  | _, _, _, .cons hv hs, h => by
    simp only [views1] at h
    split at h
    · rename_i v' h1
      split at h
      · rename_i vs' h2
        cases h
        exact .cons (view1_sound hr hv h1) (views1_sound hr hs h2)
      · cases h
    · cases h

theorem views1_length : ∀ {vs vs' : List V}, views1 H vs = some vs' → vs'.length = vs.length
  | [], _, h => by simp only [views1, Option.some.injEq] at h; subst h; rfl
  | v :: vs, _, h => by
    simp only [views1] at h
    split at h
    · split at h
      · rename_i vs' h2
        cases h
        simp [views1_length h2]
      · cases h
    · cases h

theorem view2_sound (hr : HR H g M w) {v v' : V} {c : Value} (hv : VR g M v c) (h : view2 H v = some v') : VR [] (memAll H g M w) v' c := by
  cases v <;> simp only [view2] at h <;> try exact view1_sound hr hv h
  case agg vs =>
    split at h
    · rename_i vs' h1
      cases h
      cases hv with
      | agg _ cs hvs => exact .agg _ cs (views1_sound hr hvs h1)
    · cases h
  case ptr id off =>
    split at h
    · rename_i cells hid
      split at h
      · rename_i vs' h1
        cases h
        cases hv with
        | ptr _ _ b hb =>
          have ho := hr.ob id _ _ hid hb
          simp only [ObOk] at ho
          obtain ⟨c, T, fz, k1, k2, k3, k4⟩ := ho
          have := views1_sound hr k2 h1
          refine .ref _ b 0 off _ c.toList (memAll_own hr ⟨id, _, _, hid, hb, rfl⟩ k1) ?_ (by omega)
          have hl := this.length
          rw [List.drop_zero, hl, List.take_length]
          exact this
      · cases h
    · cases h
  case eptr id ver i off =>
    cases hv with
    | eptr _ _ ver' sz _ _ b o hh h1 h2 h3 h4 =>
      have fin : ∀ {t : Ty} {xs : List t.den} {x : t.den}, VR [] (memAll H g M w) (.vec t xs) hh → sz = t.size → ver = ver' → xs[i]? = some x → VR [] (memAll H g M w) (.ref (enc t x) off) (.pointer (some ⟨b, o, none⟩)) := by
        intro t xs x hvec hsz hve hx
        obtain ⟨n, cc, e1⟩ := h3 hve
        subst e1
        cases hvec with
        | vecnil => simp at hx
        | vec _ _ _ _ _ _ cs p1 p2 p3 p4 =>
          refine .ref _ b (i * t.size) off _ cs p1 ?_ (by rw [h4, hsz])
          have := p4 i x hx
          rw [enc_length]
          rw [Nat.zero_add] at this
          exact this
      split at h
      · rename_i ver2 t xs hid
        have ho := hr.ob id _ _ hid h1
        simp only [ObOk] at ho
        cases hb : Nat.beq ver ver2 with
        | false => simp [hb] at h
        | true =>
          simp only [hb, cond_true] at h
          split at h
          · rename_i x hx
            cases h
            exact fin (vec_of_sl hr hid h1) ho.2.1 (by rw [ho.1]; exact beq_true hb) hx
          · cases h
      · rename_i ver2 t xs hid
        have ho := hr.ob id _ _ hid h1
        simp only [ObOk] at ho
        cases hb : Nat.beq ver ver2 with
        | false => simp [hb] at h
        | true =>
          simp only [hb, cond_true] at h
          split at h
          · rename_i x hx
            cases h
            exact fin (vec_of_fz hr hid h1) ho.2.1 (by rw [ho.1]; exact beq_true hb) hx
          · cases h
      · cases h

theorem views2_sound (hr : HR H g M w) : ∀ {vs vs' : List V} {cs : List Value}, VRs g M vs cs → views2 H vs = some vs' → VRs [] (memAll H g M w) vs' cs
  | _, _, _, .nil, h => by simp only [views2, Option.some.injEq] at h; subst h; exact .nil
  | _, _, _, .cons hv hs, h => by
    simp only [views2] at h
    split at h
    · rename_i v' h1
      split at h
      · rename_i vs' h2
        cases h
        exact .cons (view2_sound hr hv h1) (views2_sound hr hs h2)
      · cases h
    · cases h

theorem view3_sound (hr : HR H g M w) {v v' : V} {c : Value} (hv : VR g M v c) (h : view3 H v = some v') : VR [] (memAll H g M w) v' c := by
  cases v <;> simp only [view3] at h <;> try exact view2_sound hr hv h
  case fn f vs =>
    split at h
    · rename_i vs' h1
      cases h
      cases hv with
      | fn _ _ cs hvs => exact .fn _ _ cs (views2_sound hr hvs h1)
    · cases h

theorem views3_sound (hr : HR H g M w) : ∀ {vs vs' : List V} {cs : List Value}, VRs g M vs cs → views3 H vs = some vs' → VRs [] (memAll H g M w) vs' cs
  | _, _, _, .nil, h => by simp only [views3, Option.some.injEq] at h; subst h; exact .nil
  | _, _, _, .cons hv hs, h => by
    simp only [views3] at h
    split at h
    · rename_i v' h1
      split at h
      · rename_i vs' h2
        cases h
        exact .cons (view3_sound hr hv h1) (views3_sound hr hs h2)
      · cases h
    · cases h
end

theorem callV_sound {P : Program} {C : Ctx} (hc : CallsOk P C) {g : List G} {M : Mem} {w : World} {H : Heap} (hr : HR H g M w) {w0 : World} {M0 : Mem} {own0 : Nat → Prop} (hb : Base w0 M0 own0 H g M w)
    {f : FuncId} {args : List V} {cargs : List Value} (ha : VRs g M args cargs) {K : V → Heap → Prop} (h : callV C f args H K) :
    ∃ v, K v H ∧ CallsX P f cargs.toArray w fun val w' => ∃ M', VR g M' v val ∧ HR H g M' w' ∧ Base w0 M0 own0 H g M' w' ∧ Ext g M g M' := by
  unfold callV at h
  split at h
  · rename_i hp
    cases hi : immuts args with
    | true =>
      simp only [hi, cond_true] at h
      obtain ⟨v, h1, h2, h3⟩ := hc f args _ h
      refine ⟨v, h1, (h3 w M cargs (ha.imm hi) hr.mem).mono ?_⟩
      rintro val w' ⟨M', k1, k2, k3⟩
      exact ⟨M', k1.mono Ext.nil, hr.frame k3 k2, hb.frame k3, Ext.mem k3.mle⟩
    | false =>
      simp only [hi, cond_false] at h
      split at h
      · rename_i args' hv
        obtain ⟨v, h1, h2, h3⟩ := hc f args' _ h
        cases hf : flat v with
        | false => simp only [hf, cond_false] at h1
        | true =>
          simp only [hf, cond_true] at h1
          refine ⟨v, h1, (h3 w (memAll H g M w) cargs (views3_sound hr ha hv) (memAll_ok hr)).mono ?_⟩
          rintro val w' ⟨M', k1, k2, k3⟩
          have F : Frame0 w w' M M := ⟨k3.size, k3.keep, fun _ _ h => h, fun _ _ h => .inl h, k3.os, k3.tape, k3.output⟩
          refine ⟨M, k1.flat hf, hr.frame F ?_, hb.frame F, Ext.refl g M⟩
          intro b cs hm
          obtain ⟨c, T, fz, p1, p2⟩ := hr.mem b cs hm
          exact ⟨c, T, fz, (k3.keep b (lt_of_cells p1)).trans p1, p2⟩
      · exact h.elim
  · exact h.elim

end Go.Ev
