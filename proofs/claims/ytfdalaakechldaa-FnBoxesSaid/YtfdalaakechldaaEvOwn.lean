/- Functions that write what their callers own. -/
import Derived.Test.YtfdalaakechldaaEvFn
set_option linter.unusedVariables false
set_option linter.unusedSimpArgs false
namespace Go.Ev

mutual
theorem VR.belowT {g : List G} {M : Mem} (m : Nat) : ∀ {v : V} {c : Value}, VR g M v c → Ev.below m v = true → VR (g.take m) M v c
  | _, _, .undef v, _ => .undef v
  | _, _, .bool b, _ => .bool b
  | _, _, .int k n h, _ => .int k n h
  | _, _, .nanb n h h', _ => .nanb n h h'
  | _, _, .empty b z ad cap h h', _ => .empty b z ad cap h h'
  | _, _, .float k b b' h h', _ => .float k b b' h h'
  | _, _, .str s l h h', _ => .str s l h h'
  | _, _, .agg vs cs h, i => .agg vs cs (VRs.belowT m h (by simpa [Ev.below] using i))
  | _, _, .vecnil t ad cap, _ => .vecnil t ad cap
  | _, _, .vec t xs b off n cap cs h1 h2 h3 h4, _ => .vec t xs b off n cap cs h1 h2 h3 fun i x hx => VRs.imm (h4 i x hx) (immuts_enc t x)
  | _, _, .nils, _ => .nils
  | _, _, .nilp, _ => .nilp
  | _, _, .ref cells b base off o cs h1 h2 h3, i => .ref cells b base off o cs h1 (VRs.belowT m h2 (by simpa [Ev.below] using i)) h3
  | _, _, .ptr id off b h, i => .ptr id off b (by
      simp only [Ev.below, Nat.blt_eq] at i
      rw [List.getElem?_take, if_pos i]; exact h)
  | _, _, .obj id ver ver' sz h val h1 h2 h3 h4, i => .obj id ver ver' sz h val (by
      simp only [Ev.below, Nat.blt_eq] at i
      rw [List.getElem?_take, if_pos i]; exact h1) h2 h3 h4
  | _, _, .eptr id ver ver' sz j off b o h h1 h2 h3 h4, i => .eptr id ver ver' sz j off b o h (by
      simp only [Ev.below, Nat.blt_eq] at i
      rw [List.getElem?_take, if_pos i]; exact h1) h2 h3 h4
  | _, _, .bptr id b buf h, i => .bptr id b buf (by
      simp only [Ev.below, Nat.blt_eq] at i
      rw [List.getElem?_take, if_pos i]; exact h)
  | _, _, .psl id b t n h hn, i => .psl id b t n (by
      simp only [Ev.below, Nat.blt_eq] at i
      rw [List.getElem?_take, if_pos i]; exact h) hn
  | _, _, .dob id ver ver' iv sz bs ih h val h1 h2 h3 h4, i => .dob id ver ver' iv sz bs ih h val (by
      simp only [Ev.below, Nat.blt_eq] at i
      rw [List.getElem?_take, if_pos i]; exact h1) h2 h3 h4
  | _, _, .dep id ver ver' iv sz j off b o bs ih h h1 h2 h3 h4, i => .dep id ver ver' iv sz j off b o bs ih h (by
      simp only [Ev.below, Nat.blt_eq] at i
      rw [List.getElem?_take, if_pos i]; exact h1) h2 h3 h4
  | _, _, .inn id iv iv' ver j off sz bs ih h val h1 h2 h3 h4, i => .inn id iv iv' ver j off sz bs ih h val (by
      simp only [Ev.below, Nat.blt_eq] at i
      rw [List.getElem?_take, if_pos i]; exact h1) h2 h3 h4
  | _, _, .fn f vs cs h, i => .fn f vs cs (VRs.belowT m h (by simpa [Ev.below] using i))
  | _, _, .tuple vs cs h, i => .tuple vs cs (VRs.belowT m h (by simpa [Ev.below] using i))
theorem VRs.belowT {g : List G} {M : Mem} (m : Nat) : ∀ {vs : List V} {cs : List Value}, VRs g M vs cs → Ev.belows m vs = true → VRs (g.take m) M vs cs
  | _, _, .nil, _ => .nil
  | _, _, .cons h t, i => .cons (VR.belowT m h (by simp [Ev.belows] at i; exact i.1)) (VRs.belowT m t (by simp [Ev.belows] at i; exact i.2))
end

theorem outO_ang (m : Nat) (H : Heap) (vs : List V) {K : V → Heap → Prop} (h : outO m H vs K) : ∃ v H', K v H' ∧ ∀ K' : V → Heap → Prop, K' v H' → outO m H vs K' := by
  unfold outO at h ⊢
  cases hs : shuts m H vs with
  | none => rw [hs] at h; exact ⟨_, _, h, fun _ h => h⟩
  | some vs' =>
    rw [hs] at h
    simp only at h ⊢
    cases hb : (H.take m).all (belowOb m) with
    | true => simp only [hb, cond_true] at h ⊢; exact ⟨_, _, h, fun _ h => h⟩
    | false => simp only [hb, cond_false] at h ⊢; exact ⟨_, _, h, fun _ h => h⟩

/-- A block that a thing from number m on owns. -/
def OwnFrom (m : Nat) (H : Heap) (g : List G) (b : Nat) : Prop := ∃ (id : Nat) (o : Ob) (x : G), m ≤ id ∧ H[id]? = some o ∧ g[id]? = some x ∧ ownB o x b
theorem OwnFrom.own {m : Nat} {H : Heap} {g : List G} {b : Nat} (h : OwnFrom m H g b) : Own H g b := by
  obtain ⟨id, o, x, _, h1, h2, h3⟩ := h
  exact ⟨id, o, x, h1, h2, h3⟩

noncomputable def memTop (m : Nat) (H : Heap) (g : List G) (M : Mem) (w : World) : Mem := fun b =>
  match M b with
  | some cs => some cs
  | none => open Classical in if OwnFrom m H g b then (match w.heap[b]? with | some (.cells c _ _) => some c.toList | _ => none) else none

theorem memTop_le (m : Nat) (H : Heap) (g : List G) (M : Mem) (w : World) : ∀ b cs, M b = some cs → memTop m H g M w b = some cs := by
  intro b cs h
  simp [memTop, h]
theorem memTop_new {m : Nat} {H : Heap} {g : List G} {M : Mem} {w : World} {b : Nat} {cs : List Value} (h : memTop m H g M w b = some cs) :
    M b = some cs ∨ (OwnFrom m H g b ∧ ∃ c T fz, w.heap[b]? = some (.cells c T fz) ∧ c.toList = cs) := by
  unfold memTop at h
  split at h
  · rename_i cs' hm; cases h; exact .inl hm
  · split at h
    · rename_i ho
      split at h
      · rename_i c T fz hc; cases h; exact .inr ⟨ho, c, T, fz, hc, rfl⟩
      · cases h
    · cases h
theorem memTop_own {m : Nat} {H : Heap} {g : List G} {M : Mem} {w : World} (hr : HR H g M w) {b : Nat} {c : Array Value} {T : TypeId} {fz : Nat × Nat} (ho : OwnFrom m H g b) (hc : w.heap[b]? = some (.cells c T fz)) : memTop m H g M w b = some c.toList := by
  have := (hr.own_lt ho.own).2
  simp [memTop, this, ho, hc]

section
variable {g : List G} {M : Mem} {w : World} {H : Heap} {m : Nat}
theorem vec_top (hr : HR H g M w) {id : Nat} (hid : m ≤ id) {ver : Nat} {t : Ty} {xs : List t.den} {h : Value} {ver' sz : Nat} (h1 : H[id]? = some (.sl ver t xs)) (h2 : g[id]? = some (.sl h ver' sz)) : VR [] (memTop m H g M w) (.vec t xs) h := by
  have ho := hr.ob id _ _ h1 h2
  simp only [ObOk] at ho
  obtain ⟨_, _, hlen, ho⟩ := ho
  rcases ho with ⟨rfl, rfl⟩ | ⟨b, cap, c, T, fz, rfl, k2, k3, k4, k5, k6, k7⟩
  · exact .vecnil t none 0
  · refine .vec t xs b 0 _ cap c.toList (memTop_own hr ⟨id, _, _, hid, h1, h2, rfl⟩ k2) ⟨rfl, hlen.2⟩ k3 fun i x hx => ?_
    have := (k5 i x hx).mono (Ext.mem (memTop_le m H g M w))
    rw [Nat.zero_add]
    exact this.imm (immuts_enc t x)

theorem dp_top (hr : HR H g M w) {id : Nat} (hid : m ≤ id) {ver iv : Nat} {t : Ty} {xs : List t.den} {h : Value} {ver' iv' sz : Nat} {bs : List Nat} {ih : Nat → Value} (h1 : H[id]? = some (.dp ver iv t xs)) (h2 : g[id]? = some (.dp h ver' iv' sz bs ih)) : VR [] (memTop m H g M w) (.vec t xs) h := by
  have ho := hr.ob id _ _ h1 h2
  simp only [ObOk] at ho
  have := DC_vec (Mv := memTop m H g M w) (.slice t) (fun b hb c T fz hc => memTop_own hr ⟨id, _, _, hid, h1, h2, hb⟩ hc) ho.2.1
  cases this with
  | cons a _ => exact a

theorem shutT1 (hr : HR H g M w) {v v' : V} {c : Value} (hv : VR g M v c) (h : shut1 m H v = some v') : VR [] (memTop m H g M w) v' c := by
  have other : ∀ {u : V}, u = v → (bif immut u then some u else none) = some v' → VR [] (memTop m H g M w) v' c := by
    rintro u rfl h
    cases hi : immut u with
    | true =>
      simp only [hi, cond_true, Option.some.injEq] at h
      subst h
      exact (hv.mono (Ext.mem (memTop_le m H g M w))).imm hi
    | false => simp only [hi, cond_false] at h; cases h
  cases v <;> simp only [shut1] at h <;> try exact other rfl h
  case obj id ver =>
    cases hlt : Nat.blt id m with
    | true => simp only [hlt, cond_true] at h; cases h
    | false =>
      simp only [hlt, cond_false] at h
      have hid : m ≤ id := by
        rcases Nat.lt_or_ge id m with k | k
        · rw [show Nat.blt id m = true by rw [Nat.blt_eq]; exact k] at hlt; cases hlt
        · exact k
      cases hv with
      | obj _ _ ver' sz hh _ h1 h2 h3 h4 =>
        split at h
        · rename_i ver2 t xs hq
          have ho := hr.ob id _ _ hq h1
          simp only [ObOk] at ho
          cases hb : Nat.beq ver ver2 with
          | false => simp [hb] at h
          | true =>
            simp only [hb, cond_true, Option.some.injEq] at h
            subst h
            rw [h3 (by rw [ho.1]; exact beq_true hb)]
            exact vec_top hr hid hq h1
        · rename_i ver2 t xs hq
          have ho := hr.ob id _ _ hq h1
          simp only [ObOk] at ho
          cases hb : Nat.beq ver ver2 with
          | false => simp [hb] at h
          | true =>
            simp only [hb, cond_true, Option.some.injEq] at h
            subst h
            rw [h3 (by rw [ho.1]; exact beq_true hb)]
            exact (ho.2.2.mono (Ext.mem (memTop_le m H g M w))).imm rfl
        · cases h
  case dob id ver =>
    cases hlt : Nat.blt id m with
    | true => simp only [hlt, cond_true] at h; cases h
    | false =>
      simp only [hlt, cond_false] at h
      have hid : m ≤ id := by
        rcases Nat.lt_or_ge id m with k | k
        · rw [show Nat.blt id m = true by rw [Nat.blt_eq]; exact k] at hlt; cases hlt
        · exact k
      cases hv with
      | dob _ _ ver' iv sz bs ih hh _ h1 h2 h3 h4 =>
        split at h
        · rename_i ver2 iv2 t xs hq
          have ho := hr.ob id _ _ hq h1
          simp only [ObOk] at ho
          cases hb : Nat.beq ver ver2 with
          | false => simp [hb] at h
          | true =>
            simp only [hb, cond_true, Option.some.injEq] at h
            subst h
            rw [h3 (by rw [ho.1.1]; exact beq_true hb)]
            exact dp_top hr hid hq h1
        · cases h

theorem shutsT1 (hr : HR H g M w) : ∀ {vs vs' : List V} {cs : List Value}, VRs g M vs cs → shuts1 m H vs = some vs' → VRs [] (memTop m H g M w) vs' cs
  | _, _, _, .nil, h => by simp only [shuts1, Option.some.injEq] at h; subst h; exact .nil
  | _, _, _, .cons hv hs, h => by
    simp only [shuts1] at h
    split at h
    · rename_i v' h1
      split at h
      · rename_i vs' h2
        cases h
        exact .cons (shutT1 hr hv h1) (shutsT1 hr hs h2)
      · cases h
    · cases h

theorem shutT (hr : HR H g M w) {v v' : V} {c : Value} (hv : VR g M v c) (h : shut m H v = some v') : VR [] (memTop m H g M w) v' c := by
  cases v <;> simp only [shut] at h <;> try exact shutT1 hr hv h
  case agg vs =>
    split at h
    · rename_i vs' h1
      cases h
      cases hv with
      | agg _ cs hvs => exact .agg _ cs (shutsT1 hr hvs h1)
    · cases h

theorem shutsT (hr : HR H g M w) : ∀ {vs vs' : List V} {cs : List Value}, VRs g M vs cs → shuts m H vs = some vs' → VRs [] (memTop m H g M w) vs' cs
  | _, _, _, .nil, h => by simp only [shuts, Option.some.injEq] at h; subst h; exact .nil
  | _, _, _, .cons hv hs, h => by
    simp only [shuts] at h
    split at h
    · rename_i v' h1
      split at h
      · rename_i vs' h2
        cases h
        exact .cons (shutT hr hv h1) (shutsT hr hs h2)
      · cases h
    · cases h

theorem take_get {α : Type} {l : List α} {m i : Nat} {x : α} (h : (l.take m)[i]? = some x) : i < m ∧ l[i]? = some x := by
  rw [List.getElem?_take] at h
  split at h
  · rename_i hi; exact ⟨hi, h⟩
  · cases h

theorem HR.top (hr : HR H g M w) (hb : (H.take m).all (belowOb m) = true) : HR (H.take m) (g.take m) (memTop m H g M w) w := by
  have hbl : ∀ (id : Nat) (o : Ob), (H.take m)[id]? = some o → belowOb m o = true := by
    intro id o h
    exact List.all_eq_true.1 hb o (List.mem_of_getElem? h)
  have E : Ext g M g (memTop m H g M w) := Ext.mem (memTop_le m H g M w)
  have none' : ∀ (id : Nat) (o : Ob) (x : G) (b : Nat), id < m → H[id]? = some o → g[id]? = some x → ownB o x b → memTop m H g M w b = none := by
    intro id o x b hid h1 h2 h3
    cases e : memTop m H g M w b with
    | none => rfl
    | some cs =>
      rcases memTop_new e with k | ⟨⟨id', o', x', k1, k2, k3, k4⟩, _⟩
      · rw [(Ev.own_lt (hr.ob id o x h1 h2) h3).2] at k; cases k
      · have := hr.apart id id' o o' x x' b h1 h2 k2 k3 h3 k4
        omega
  refine ⟨by simp [hr.len], ?_, ?_, ?_⟩
  · intro id o x h1 h2
    have hbo := hbl id o h1
    obtain ⟨hid, k1⟩ := take_get h1
    obtain ⟨_, k2⟩ := take_get h2
    have ho := hr.ob id o x k1 k2
    have hn := fun b => none' id o x b hid k1 k2
    cases o <;> cases x <;> simp only [ObOk] at ho ⊢ <;> try exact ho
    · obtain ⟨c, T, fz, p1, p2, p3, p4⟩ := ho
      exact ⟨c, T, fz, p1, VRs.belowT m (p2.mono E) hbo, p3, hn _ rfl⟩
    · obtain ⟨p1, p2, p3, p4⟩ := ho
      refine ⟨p1, p2, p3, p4.imp (fun e => e) ?_⟩
      rintro ⟨b, cap, c, T, fz, rfl, k2, k3, k4, k5, k6, k7⟩
      exact ⟨b, cap, c, T, fz, rfl, k2, k3, k4, fun i x hx => ((k5 i x hx).mono E).imm (immuts_enc _ x), k6, hn _ rfl⟩
    · exact ⟨ho.1, ho.2.1, (ho.2.2.mono E).imm rfl⟩
    · obtain ⟨p, v, p1, p2, p3, p4, p5, p6, p7⟩ := ho
      exact ⟨p, v, p1, p2, p3, p4, p5, hn _ (.inl rfl), fun c hc => hn c (.inr hc), p7.2⟩
    · exact ⟨ho.1, ho.2.1, ho.2.2.1, fun b hb' => hn b hb', ho.2.2.2.2⟩
  · intro id id' o o' x x' b h1 h2 h3 h4 h5 h6
    exact hr.apart id id' o o' x x' b (take_get h1).2 (take_get h2).2 (take_get h3).2 (take_get h4).2 h5 h6
  · intro b cs h
    rcases memTop_new h with k | ⟨_, k⟩
    · exact hr.mem b cs k
    · exact k
end

section
variable {P : Program} {C : Ctx}
theorem wpFnO_ang (hc : CallAng C) (hd : CallAng C.drawn) (fn : Func) (args : List V) (hs : Heap) {K : V → Heap → Prop} (h : wpFnO C fn args hs K) : ∃ v H', K v H' ∧ ∀ K' : V → Heap → Prop, K' v H' → wpFnO C fn args hs K' := by
  unfold wpFnO at h
  cases hb : fn.body with
  | none => simp only [hb] at h
  | some body =>
    simp only [hb] at h
    cases hq : (Nat.ble args.length fn.ntmps && Nat.beq fn.ntmps C.ntmps && Nat.beq hs.length C.base && hs.all isBox) with
    | false => simp only [hq, cond_false] at h
    | true =>
      simp only [hq, cond_true] at h
      obtain ⟨e, fr, H, h1, h2⟩ := wpE_ang hc hd body _ _ _ h
      have fin : ∀ (F : (V → Heap → Prop) → Prop), F K → (F = fun K => bif Nat.ble hs.length H.length then resV C fr H fn.results.toList fun vs => outO hs.length H vs K else False) → ∃ v H', K v H' ∧ ∀ K' : V → Heap → Prop, K' v H' → F K' := by
        rintro F hF rfl
        cases hle : Nat.ble hs.length H.length with
        | false => simp only [hle, cond_false] at hF
        | true =>
          simp only [hle, cond_true] at hF ⊢
          obtain ⟨vs, h3, h4⟩ := resV_ang fr H _ _ hF
          obtain ⟨v, H', h5, h6⟩ := outO_ang _ H vs h3
          exact ⟨v, H', h5, fun K' h' => h4 _ (h6 K' h')⟩
      cases e with
      | exit id => exact h1.elim
      | normal =>
        obtain ⟨v, H', h5, h6⟩ := fin _ h1 rfl
        refine ⟨v, H', h5, fun K' h' => ?_⟩
        unfold wpFnO
        simp only [hb, hq, cond_true]
        exact h2 _ (h6 K' h')
      | ret =>
        obtain ⟨v, H', h5, h6⟩ := fin _ h1 rfl
        refine ⟨v, H', h5, fun K' h' => ?_⟩
        unfold wpFnO
        simp only [hb, hq, cond_true]
        exact h2 _ (h6 K' h')

theorem tup_sound {g : List G} {M : Mem} {vs : List V} {vals : List Value} (h : VRs g M vs vals) : VR g M (tup vs) (if h : vals.toArray.size = 1 then vals.toArray[0] else .tuple vals.toArray) := by
  match vs, vals, h with
  | [], _, .nil => exact .tuple [] #[] .nil
  | [v], _, .cons hv .nil => exact hv
  | x :: y :: r, _, .cons hx (.cons hy hr) =>
    rw [dif_neg (by simp)]
    exact .tuple _ _ (.cons hx (.cons hy hr))

/-- What a body leaves behind, and the values of its results. -/
theorem body_sound (L : LOk P C) (hc : CallsOk0 P C) (hm : P.follows .mixedOrders = true) {k : FuncId} {fn : Func} (hf : P.funcs[k]? = some fn) (hn : (fn.name == "runtime.NumGoroutine") = false) {body : Code} (hb : fn.body = some body)
    {args : List V} {hs : Heap} (hq : (Nat.ble args.length fn.ntmps && Nat.beq fn.ntmps C.ntmps && Nat.beq hs.length C.base && hs.all isBox) = true) {Kf : List V → Heap → Prop}
    (hw : wpE C body (paramsFr 0 args) hs fun e fr H => match e with
      | .exit _ => False
      | _ => bif Nat.ble hs.length H.length then resV C fr H fn.results.toList fun vs => Kf vs H else False)
    {w : World} {g0 : List G} {M : Mem} {cargs : List Value} (ha : VRs g0 M args cargs) (hr0 : HR hs g0 M w) (hG : GamOk P M) :
    CallsX P k cargs.toArray w fun val w' => ∃ vs vals H' g M', Kf vs H' ∧ VRs g M' vs vals ∧ val = (if h : vals.toArray.size = 1 then vals.toArray[0] else .tuple vals.toArray) ∧ hs.length ≤ H'.length ∧
      HR H' g M' w' ∧ Base w M (Z.of hs g0) H' g M' w' ∧ (∀ (id : Nat) (x : G), g0[id]? = some x → g[id]? = some x) ∧ (∀ (id : Nat) (x : G), g0[id]? = some x → x.fixed = true) := by
  simp only [Bool.and_eq_true] at hq
  have q1 := Nat.le_of_ble_eq_true hq.1.1.1
  have q2 := beq_true hq.1.1.2
  have q3 := beq_true hq.1.2
  have q4 := List.all_eq_true.1 hq.2
  have hlen := ha.length
  have hfix : ∀ (id : Nat) (x : G), g0[id]? = some x → x.fixed = true := by
    intro id x hx
    have hl : id < hs.length := by rw [hr0.len]; exact lt_of_get hx
    have hob := hr0.ob id _ x (List.getElem?_eq_getElem hl) hx
    have := q4 _ (List.getElem_mem hl)
    cases ho : hs[id] <;> rw [ho] at this hob <;> simp only [isBox] at this <;> try (cases this; done)
    · cases x <;> simp only [ObOk] at hob
      rfl
    · cases x <;> simp only [ObOk] at hob
      simp only [G.fixed, hob.1]
      exact this
    · cases x <;> simp only [ObOk] at hob
      simp only [G.fixed, hob.1.1, hob.1.2.1]
      exact this
  refine .inr ⟨?_, ?_⟩
  · have hn' : ¬ fn.name = "runtime.NumGoroutine" := by simpa using hn
    simp [callFunc, hf, hn', hb]
  · refine calls_of_wp hf hb ?_
    have hzn : (Z.of hs g0).n ≤ C.base := by
      show g0.length ≤ C.base
      rw [← hr0.len]; exact Nat.le_of_eq q3
    refine wpE_sound (w0 := w) (M0 := M) (own0 := Z.of hs g0) L ⟨hG, hc, hzn⟩ hm hzn body _ _ _ _ w _ hw ?_ ?_
    · refine ⟨g0, M, ⟨fun t => ?_, ?_, rfl⟩, hr0, ⟨Nat.le_refl _, fun _ _ _ => rfl, fun b hb' => .inl hb', fun _ _ h => h, fun _ _ h => .inl h, rfl, rfl, rfl, fun id b hid => hid.1⟩⟩
      · rw [paramsFr_get, if_pos (Nat.zero_le _)]
        simp only [Nat.sub_zero]
        cases e : args[t]? with
        | none => exact .undef _
        | some u =>
          obtain ⟨c, hc1, hc2⟩ := ha.get e
          have : (cargs.toArray ++ Array.replicate (fn.ntmps - cargs.toArray.size) Go.undef).getD t Go.undef = c := by
            have hlt := lt_of_get hc1
            simp only [Array.getD_eq_getD_getElem?]
            rw [Array.getElem?_append_left (by simpa using hlt)]
            simp [hc1]
          rw [this]
          exact hc2
      · simp
        omega
    · rintro e fr' H' hk a' w' ⟨g, M', hfr, hr, hbase⟩
      have fin : (bif Nat.ble hs.length H'.length then resV C fr' H' fn.results.toList fun vs => Kf vs H' else False) → a'.defers = [] ∧ ∃ u, (results fn a'.tmps).run P w' = .ok u w' ∧
          ∃ u', Ending.returned u = .returned u' ∧ ∃ vs vals H' g M', Kf vs H' ∧ VRs g M' vs vals ∧ u' = (if h : vals.toArray.size = 1 then vals.toArray[0] else .tuple vals.toArray) ∧ hs.length ≤ H'.length ∧
            HR H' g M' w' ∧ Base w M (Z.of hs g0) H' g M' w' ∧ (∀ (id : Nat) (x : G), g0[id]? = some x → g[id]? = some x) ∧ (∀ (id : Nat) (x : G), g0[id]? = some x → x.fixed = true) := by
        intro hres
        cases hle : Nat.ble hs.length H'.length with
        | false => simp only [hle, cond_false] at hres
        | true =>
        simp only [hle, cond_true] at hres
        obtain ⟨vs, vals, p1, p2, p3, p4⟩ := run_resV L hfr hr _ _ hres
        exact ⟨hfr.defers, _, run_results p3 p4, _, rfl, vs, vals, H', g, M', p1, p2, rfl, Nat.le_of_ble_eq_true hle, hr, hbase, fun id x hx => hbase.gbox id x ⟨hx, hfix id x hx⟩, hfix⟩
      cases e with
      | exit id => exact hk.elim
      | normal => exact fin hk
      | ret => exact fin hk

/-- What the evaluator says of a body that writes its caller's boxes holds of the function. -/
theorem fnOkO_of_wpFnO (L : LOk P C) (hc : CallsOk0 P C) (hm : P.follows .mixedOrders = true) {k : FuncId} {fn : Func} (hf : P.funcs[k]? = some fn) (hn : (fn.name == "runtime.NumGoroutine") = false) : FnOkO P k (wpFnO C fn) := by
  intro args hs K h
  obtain ⟨v, H1, h1, h2⟩ := wpFnO_ang hc.ang hc.drawn.ang fn args hs h
  refine ⟨v, H1, h1, h2, ?_⟩
  intro w g0 M cargs ha hr0 hG
  have hw := h2 (fun u hs => u = v ∧ hs = H1) ⟨rfl, rfl⟩
  unfold wpFnO at hw
  cases hb : fn.body with
  | none => simp only [hb] at hw
  | some body =>
    simp only [hb] at hw
    cases hq : (Nat.ble args.length fn.ntmps && Nat.beq fn.ntmps C.ntmps && Nat.beq hs.length C.base && hs.all isBox) with
    | false => simp only [hq, cond_false] at hw
    | true =>
      simp only [hq, cond_true] at hw
      refine (body_sound L hc hm hf hn hb hq (Kf := fun vs H => outO hs.length H vs fun u hs => u = v ∧ hs = H1) hw ha hr0 hG).mono ?_
      rintro val w' ⟨vs, vals, H', g, M', p1, p2, rfl, hle, hr, hbase, hgs, hfix⟩
      have full : (tup vs = v ∧ H' = H1) → ∃ g' M', VR g' M' v (if h : vals.toArray.size = 1 then vals.toArray[0] else .tuple vals.toArray) ∧ HR H1 g' M' w' ∧ Ext g0 M g' M' ∧ Base w M (Z.of hs g0) H1 g' M' w' := by
        rintro ⟨rfl, rfl⟩
        exact ⟨g, M', tup_sound p2, hr, ⟨fun id x hx => ⟨x, hgs id x hx, Gle.refl x⟩, hbase.mle⟩, hbase⟩
      unfold outO at p1
      cases hsh : shuts hs.length H' vs with
      | none => rw [hsh] at p1; exact full p1
      | some vs' =>
        rw [hsh] at p1
        simp only at p1
        cases hbl : (H'.take hs.length).all (belowOb hs.length) with
        | false => simp only [hbl, cond_false] at p1; exact full p1
        | true =>
          simp only [hbl, cond_true] at p1
          obtain ⟨rfl, rfl⟩ := p1
          have hv := tup_sound (shutsT hr p2 hsh)
          have hgt : ∀ (id : Nat) (x : G), g0[id]? = some x → (g.take hs.length)[id]? = some x := by
            intro id x hx
            have hl : id < hs.length := by rw [hr0.len]; exact lt_of_get hx
            rw [List.getElem?_take, if_pos hl]
            exact hgs id x hx
          refine ⟨g.take hs.length, memTop hs.length H' g M' w', hv.mono Ext.nil, hr.top hbl, ⟨fun id x hx => ⟨x, hgt id x hx, Gle.refl x⟩, fun b cs hb' => memTop_le _ _ _ _ _ b cs (hbase.mle b cs hb')⟩,
            ⟨hbase.size, hbase.keep, ?_, fun b cs hb' => memTop_le _ _ _ _ _ b cs (hbase.mle b cs hb'), ?_, hbase.os, hbase.tape, hbase.output, fun id x hx => hgt id x hx.1⟩⟩
          · rintro b ⟨id, o, x, k1, k2, k3⟩
            exact hbase.own b ⟨id, o, x, (take_get k1).2, (take_get k2).2, k3⟩
          · intro b cs hm'
            rcases memTop_new hm' with k | ⟨k, _⟩
            · exact hbase.mnew b cs k
            · exact .inr (hbase.own b k.own)
end
end Go.Ev
