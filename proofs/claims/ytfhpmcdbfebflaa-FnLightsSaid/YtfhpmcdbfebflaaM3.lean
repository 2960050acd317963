/- Merged texts: EvOwn EvUse EvRow EvExt EvLoop EvGive EvFrame EvTake EvLem Pre Src Idx Vec Shape Shapes. -/
import Derived.Test.YtfhpmcdbfebflaaM2
import Derived.ProofKit
import Derived.Below
import Derived.Carry
import Derived.ChangeOld
import Derived.Laws.Externs
import Derived.IntWalk
import Derived.Test.YtfhpmcdbfebflaaRows
/- Functions that write what their callers own. -/
set_option linter.unusedVariables false
set_option linter.unusedSimpArgs false
namespace Go.Ev

mutual
theorem VR.belowT {g : List G} {M : Mem} (m : Nat) : ∀ {v : V} {c : Value}, VR g M v c → Ev.below m v = true → VR (g.take m) M v c
  | _, _, .undef v, _ => .undef v
  | _, _, .bool b, _ => .bool b
  | _, _, .int k n h, _ => .int k n h
  | _, _, .nanb n h h', _ => .nanb n h h'
  | _, _, .empty b z ad cap h h', _ => .empty b z ad cap h h'
  | _, _, .float k b b' h h', _ => .float k b b' h h'
  | _, _, .str s l h h', _ => .str s l h h'
  | _, _, .agg vs cs h, i => .agg vs cs (VRs.belowT m h (by simpa [Ev.below] using i))
  | _, _, .vecnil t ad cap, _ => .vecnil t ad cap
  | _, _, .vec t xs b off n cap cs h1 h2 h3 h4, _ => .vec t xs b off n cap cs h1 h2 h3 fun i x hx => VRs.imm (h4 i x hx) (immuts_enc t x)
  | _, _, .nils, _ => .nils
  | _, _, .nilp, _ => .nilp
  | _, _, .ref cells b base off o cs h1 h2 h3, i => .ref cells b base off o cs h1 (VRs.belowT m h2 (by simpa [Ev.below] using i)) h3
  | _, _, .ptr id off b h, i => .ptr id off b (by
      simp only [Ev.below, Nat.blt_eq] at i
      rw [List.getElem?_take, if_pos i]; exact h)
  | _, _, .obj id ver ver' sz h val h1 h2 h3 h4, i => .obj id ver ver' sz h val (by
      simp only [Ev.below, Nat.blt_eq] at i
      rw [List.getElem?_take, if_pos i]; exact h1) h2 h3 h4
  | _, _, .eptr id ver ver' sz j off b o h h1 h2 h3 h4, i => .eptr id ver ver' sz j off b o h (by
      simp only [Ev.below, Nat.blt_eq] at i
      rw [List.getElem?_take, if_pos i]; exact h1) h2 h3 h4
  | _, _, .bptr id b buf h, i => .bptr id b buf (by
      simp only [Ev.below, Nat.blt_eq] at i
      rw [List.getElem?_take, if_pos i]; exact h)
  | _, _, .psl id b t n h hn, i => .psl id b t n (by
      simp only [Ev.below, Nat.blt_eq] at i
      rw [List.getElem?_take, if_pos i]; exact h) hn
  | _, _, .dob id ver ver' iv sz bs ih h val h1 h2 h3 h4, i => .dob id ver ver' iv sz bs ih h val (by
      simp only [Ev.below, Nat.blt_eq] at i
      rw [List.getElem?_take, if_pos i]; exact h1) h2 h3 h4
  | _, _, .dep id ver ver' iv sz j off b o bs ih h h1 h2 h3 h4, i => .dep id ver ver' iv sz j off b o bs ih h (by
      simp only [Ev.below, Nat.blt_eq] at i
      rw [List.getElem?_take, if_pos i]; exact h1) h2 h3 h4
  | _, _, .inn id iv iv' ver j off sz bs ih h val h1 h2 h3 h4, i => .inn id iv iv' ver j off sz bs ih h val (by
      simp only [Ev.below, Nat.blt_eq] at i
      rw [List.getElem?_take, if_pos i]; exact h1) h2 h3 h4
  | _, _, .fn f vs cs h, i => .fn f vs cs (VRs.belowT m h (by simpa [Ev.below] using i))
  | _, _, .tuple vs cs h, i => .tuple vs cs (VRs.belowT m h (by simpa [Ev.below] using i))
theorem VRs.belowT {g : List G} {M : Mem} (m : Nat) : ∀ {vs : List V} {cs : List Value}, VRs g M vs cs → Ev.belows m vs = true → VRs (g.take m) M vs cs
  | _, _, .nil, _ => .nil
  | _, _, .cons h t, i => .cons (VR.belowT m h (by simp [Ev.belows] at i; exact i.1)) (VRs.belowT m t (by simp [Ev.belows] at i; exact i.2))
end

theorem outO_ang (m : Nat) (H : Heap) (vs : List V) {K : V → Heap → Prop} (h : outO m H vs K) : ∃ v H', K v H' ∧ ∀ K' : V → Heap → Prop, K' v H' → outO m H vs K' := by
  unfold outO at h ⊢
  cases hs : shuts m H vs with
  | none => rw [hs] at h; exact ⟨_, _, h, fun _ h => h⟩
  | some vs' =>
    rw [hs] at h
    simp only at h ⊢
    cases hb : (H.take m).all (belowOb m) with
    | true => simp only [hb, cond_true] at h ⊢; exact ⟨_, _, h, fun _ h => h⟩
    | false => simp only [hb, cond_false] at h ⊢; exact ⟨_, _, h, fun _ h => h⟩

def OwnFrom (m : Nat) (H : Heap) (g : List G) (b : Nat) : Prop := ∃ (id : Nat) (o : Ob) (x : G), m ≤ id ∧ H[id]? = some o ∧ g[id]? = some x ∧ ownB o x b
theorem OwnFrom.own {m : Nat} {H : Heap} {g : List G} {b : Nat} (h : OwnFrom m H g b) : Own H g b := by
  obtain ⟨id, o, x, _, h1, h2, h3⟩ := h
  exact ⟨id, o, x, h1, h2, h3⟩

noncomputable def memTop (m : Nat) (H : Heap) (g : List G) (M : Mem) (w : World) : Mem := fun b =>
  match M b with
  | some cs => some cs
  | none => open Classical in if OwnFrom m H g b then (match w.heap[b]? with | some (.cells c _ _) => some c.toList | _ => none) else none

theorem memTop_le (m : Nat) (H : Heap) (g : List G) (M : Mem) (w : World) : ∀ b cs, M b = some cs → memTop m H g M w b = some cs := by
  intro b cs h
  simp [memTop, h]
theorem memTop_new {m : Nat} {H : Heap} {g : List G} {M : Mem} {w : World} {b : Nat} {cs : List Value} (h : memTop m H g M w b = some cs) :
    M b = some cs ∨ (OwnFrom m H g b ∧ ∃ c T fz, w.heap[b]? = some (.cells c T fz) ∧ c.toList = cs) := by
  unfold memTop at h
  split at h
  · rename_i cs' hm; cases h; exact .inl hm
  · split at h
    · rename_i ho
      split at h
      · rename_i c T fz hc; cases h; exact .inr ⟨ho, c, T, fz, hc, rfl⟩
      · cases h
    · cases h
theorem memTop_own {m : Nat} {H : Heap} {g : List G} {M : Mem} {w : World} (hr : HR H g M w) {b : Nat} {c : Array Value} {T : TypeId} {fz : Nat × Nat} (ho : OwnFrom m H g b) (hc : w.heap[b]? = some (.cells c T fz)) : memTop m H g M w b = some c.toList := by
  have := (hr.own_lt ho.own).2
  simp [memTop, this, ho, hc]

section
variable {g : List G} {M : Mem} {w : World} {H : Heap} {m : Nat}
theorem vec_top (hr : HR H g M w) {id : Nat} (hid : m ≤ id) {ver : Nat} {t : Ty} {xs : List t.den} {h : Value} {ver' sz : Nat} (h1 : H[id]? = some (.sl ver t xs)) (h2 : g[id]? = some (.sl h ver' sz)) : VR [] (memTop m H g M w) (.vec t xs) h := by
  have ho := hr.ob id _ _ h1 h2
  simp only [ObOk] at ho
  obtain ⟨_, _, hlen, ho⟩ := ho
  rcases ho with ⟨rfl, rfl⟩ | ⟨b, cap, c, T, fz, rfl, k2, k3, k4, k5, k6, k7⟩
  · exact .vecnil t none 0
  · refine .vec t xs b 0 _ cap c.toList (memTop_own hr ⟨id, _, _, hid, h1, h2, rfl⟩ k2) ⟨rfl, hlen.2⟩ k3 fun i x hx => ?_
    have := (k5 i x hx).mono (Ext.mem (memTop_le m H g M w))
    rw [Nat.zero_add]
    exact this.imm (immuts_enc t x)

theorem dp_top (hr : HR H g M w) {id : Nat} (hid : m ≤ id) {ver iv : Nat} {t : Ty} {xs : List t.den} {h : Value} {ver' iv' sz : Nat} {bs : List Nat} {ih : Nat → Value} (h1 : H[id]? = some (.dp ver iv t xs)) (h2 : g[id]? = some (.dp h ver' iv' sz bs ih)) : VR [] (memTop m H g M w) (.vec t xs) h := by
  have ho := hr.ob id _ _ h1 h2
  simp only [ObOk] at ho
  have := DC_vec (Mv := memTop m H g M w) (.slice t) (fun b hb c T fz hc => memTop_own hr ⟨id, _, _, hid, h1, h2, hb⟩ hc) ho.2.1
  cases this with
  | cons a _ => exact a

theorem shutT1 (hr : HR H g M w) {v v' : V} {c : Value} (hv : VR g M v c) (h : shut1 m H v = some v') : VR [] (memTop m H g M w) v' c := by
  have other : ∀ {u : V}, u = v → (bif immut u then some u else none) = some v' → VR [] (memTop m H g M w) v' c := by
    rintro u rfl h
    cases hi : immut u with
    | true =>
      simp only [hi, cond_true, Option.some.injEq] at h
      subst h
      exact (hv.mono (Ext.mem (memTop_le m H g M w))).imm hi
    | false => simp only [hi, cond_false] at h; cases h
  cases v <;> simp only [shut1] at h <;> try exact other rfl h
  case obj id ver =>
    cases hlt : Nat.blt id m with
    | true => simp only [hlt, cond_true] at h; cases h
    | false =>
      simp only [hlt, cond_false] at h
      have hid : m ≤ id := by
        rcases Nat.lt_or_ge id m with k | k
        · rw [show Nat.blt id m = true by rw [Nat.blt_eq]; exact k] at hlt; cases hlt
        · exact k
      cases hv with
      | obj _ _ ver' sz hh _ h1 h2 h3 h4 =>
        split at h
        · rename_i ver2 t xs hq
          have ho := hr.ob id _ _ hq h1
          simp only [ObOk] at ho
          cases hb : Nat.beq ver ver2 with
          | false => simp [hb] at h
          | true =>
            simp only [hb, cond_true, Option.some.injEq] at h
            subst h
            rw [h3 (by rw [ho.1]; exact beq_true hb)]
            exact vec_top hr hid hq h1
        · rename_i ver2 t xs hq
          have ho := hr.ob id _ _ hq h1
          simp only [ObOk] at ho
          cases hb : Nat.beq ver ver2 with
          | false => simp [hb] at h
          | true =>
            simp only [hb, cond_true, Option.some.injEq] at h
            subst h
            rw [h3 (by rw [ho.1]; exact beq_true hb)]
            exact (ho.2.2.mono (Ext.mem (memTop_le m H g M w))).imm rfl
        · cases h
  case dob id ver =>
    cases hlt : Nat.blt id m with
    | true => simp only [hlt, cond_true] at h; cases h
    | false =>
      simp only [hlt, cond_false] at h
      have hid : m ≤ id := by
        rcases Nat.lt_or_ge id m with k | k
        · rw [show Nat.blt id m = true by rw [Nat.blt_eq]; exact k] at hlt; cases hlt
        · exact k
      cases hv with
      | dob _ _ ver' iv sz bs ih hh _ h1 h2 h3 h4 =>
        split at h
        · rename_i ver2 iv2 t xs hq
          have ho := hr.ob id _ _ hq h1
          simp only [ObOk] at ho
          cases hb : Nat.beq ver ver2 with
          | false => simp [hb] at h
          | true =>
            simp only [hb, cond_true, Option.some.injEq] at h
            subst h
            rw [h3 (by rw [ho.1.1]; exact beq_true hb)]
            exact dp_top hr hid hq h1
        · cases h

theorem shutsT1 (hr : HR H g M w) : ∀ {vs vs' : List V} {cs : List Value}, VRs g M vs cs → shuts1 m H vs = some vs' → VRs [] (memTop m H g M w) vs' cs
  | _, _, _, .nil, h => by simp only [shuts1, Option.some.injEq] at h; subst h; exact .nil
  | _, _, _, .cons hv hs, h => by
    simp only [shuts1] at h
    split at h
    · rename_i v' h1
      split at h
      · rename_i vs' h2
        cases h
        exact .cons (shutT1 hr hv h1) (shutsT1 hr hs h2)
      · cases h
    · cases h

theorem shutT (hr : HR H g M w) {v v' : V} {c : Value} (hv : VR g M v c) (h : shut m H v = some v') : VR [] (memTop m H g M w) v' c := by
  cases v <;> simp only [shut] at h <;> try exact shutT1 hr hv h
  case agg vs =>
    split at h
    · rename_i vs' h1
      cases h
      cases hv with
      | agg _ cs hvs => exact .agg _ cs (shutsT1 hr hvs h1)
    · cases h

theorem shutsT (hr : HR H g M w) : ∀ {vs vs' : List V} {cs : List Value}, VRs g M vs cs → shuts m H vs = some vs' → VRs [] (memTop m H g M w) vs' cs
  | _, _, _, .nil, h => by simp only [shuts, Option.some.injEq] at h; subst h; exact .nil
  | _, _, _, .cons hv hs, h => by
    simp only [shuts] at h
    split at h
    · rename_i v' h1
      split at h
      · rename_i vs' h2
        cases h
        exact .cons (shutT hr hv h1) (shutsT hr hs h2)
      · cases h
    · cases h

theorem take_get {α : Type} {l : List α} {m i : Nat} {x : α} (h : (l.take m)[i]? = some x) : i < m ∧ l[i]? = some x := by
  rw [List.getElem?_take] at h
  split at h
  · rename_i hi; exact ⟨hi, h⟩
  · cases h

theorem HR.top (hr : HR H g M w) (hb : (H.take m).all (belowOb m) = true) : HR (H.take m) (g.take m) (memTop m H g M w) w := by
  have hbl : ∀ (id : Nat) (o : Ob), (H.take m)[id]? = some o → belowOb m o = true := by
    intro id o h
    exact List.all_eq_true.1 hb o (List.mem_of_getElem? h)
  have E : Ext g M g (memTop m H g M w) := Ext.mem (memTop_le m H g M w)
  have none' : ∀ (id : Nat) (o : Ob) (x : G) (b : Nat), id < m → H[id]? = some o → g[id]? = some x → ownB o x b → memTop m H g M w b = none := by
    intro id o x b hid h1 h2 h3
    cases e : memTop m H g M w b with
    | none => rfl
    | some cs =>
      rcases memTop_new e with k | ⟨⟨id', o', x', k1, k2, k3, k4⟩, _⟩
      · rw [(Ev.own_lt (hr.ob id o x h1 h2) h3).2] at k; cases k
      · have := hr.apart id id' o o' x x' b h1 h2 k2 k3 h3 k4
        omega
  refine ⟨by simp [hr.len], ?_, ?_, ?_⟩
  · intro id o x h1 h2
    have hbo := hbl id o h1
    obtain ⟨hid, k1⟩ := take_get h1
    obtain ⟨_, k2⟩ := take_get h2
    have ho := hr.ob id o x k1 k2
    have hn := fun b => none' id o x b hid k1 k2
    cases o <;> cases x <;> simp only [ObOk] at ho ⊢ <;> try exact ho
    · obtain ⟨c, T, fz, p1, p2, p3, p4⟩ := ho
      exact ⟨c, T, fz, p1, VRs.belowT m (p2.mono E) hbo, p3, hn _ rfl⟩
    · obtain ⟨p1, p2, p3, p4⟩ := ho
      refine ⟨p1, p2, p3, p4.imp (fun e => e) ?_⟩
      rintro ⟨b, cap, c, T, fz, rfl, k2, k3, k4, k5, k6, k7⟩
      exact ⟨b, cap, c, T, fz, rfl, k2, k3, k4, fun i x hx => ((k5 i x hx).mono E).imm (immuts_enc _ x), k6, hn _ rfl⟩
    · exact ⟨ho.1, ho.2.1, (ho.2.2.mono E).imm rfl⟩
    · obtain ⟨p, v, p1, p2, p3, p4, p5, p6, p7⟩ := ho
      exact ⟨p, v, p1, p2, p3, p4, p5, hn _ (.inl rfl), fun c hc => hn c (.inr hc), p7.2⟩
    · exact ⟨ho.1, ho.2.1, ho.2.2.1, fun b hb' => hn b hb', ho.2.2.2.2⟩
  · intro id id' o o' x x' b h1 h2 h3 h4 h5 h6
    exact hr.apart id id' o o' x x' b (take_get h1).2 (take_get h2).2 (take_get h3).2 (take_get h4).2 h5 h6
  · intro b cs h
    rcases memTop_new h with k | ⟨_, k⟩
    · exact hr.mem b cs k
    · exact k
end

section
variable {P : Program} {C : Ctx}
theorem wpFnO_ang (hc : CallAng C) (hd : CallAng C.drawn) (fn : Func) (args : List V) (hs : Heap) {K : V → Heap → Prop} (h : wpFnO C fn args hs K) : ∃ v H', K v H' ∧ ∀ K' : V → Heap → Prop, K' v H' → wpFnO C fn args hs K' := by
  unfold wpFnO at h
  cases hb : fn.body with
  | none => simp only [hb] at h
  | some body =>
    simp only [hb] at h
    cases hq : (Nat.ble args.length fn.ntmps && Nat.beq fn.ntmps C.ntmps && Nat.beq hs.length C.base && hs.all isBox) with
    | false => simp only [hq, cond_false] at h
    | true =>
      simp only [hq, cond_true] at h
      obtain ⟨e, fr, H, h1, h2⟩ := wpE_ang hc hd body _ _ _ h
      have fin : ∀ (F : (V → Heap → Prop) → Prop), F K → (F = fun K => bif Nat.ble hs.length H.length then resV C fr H fn.results.toList fun vs => outO hs.length H vs K else False) → ∃ v H', K v H' ∧ ∀ K' : V → Heap → Prop, K' v H' → F K' := by
        rintro F hF rfl
        cases hle : Nat.ble hs.length H.length with
        | false => simp only [hle, cond_false] at hF
        | true =>
          simp only [hle, cond_true] at hF ⊢
          obtain ⟨vs, h3, h4⟩ := resV_ang fr H _ _ hF
          obtain ⟨v, H', h5, h6⟩ := outO_ang _ H vs h3
          exact ⟨v, H', h5, fun K' h' => h4 _ (h6 K' h')⟩
      cases e with
      | exit id => exact h1.elim
      | normal =>
        obtain ⟨v, H', h5, h6⟩ := fin _ h1 rfl
        refine ⟨v, H', h5, fun K' h' => ?_⟩
        unfold wpFnO
        simp only [hb, hq, cond_true]
        exact h2 _ (h6 K' h')
      | ret =>
        obtain ⟨v, H', h5, h6⟩ := fin _ h1 rfl
        refine ⟨v, H', h5, fun K' h' => ?_⟩
        unfold wpFnO
        simp only [hb, hq, cond_true]
        exact h2 _ (h6 K' h')

theorem tup_sound {g : List G} {M : Mem} {vs : List V} {vals : List Value} (h : VRs g M vs vals) : VR g M (tup vs) (if h : vals.toArray.size = 1 then vals.toArray[0] else .tuple vals.toArray) := by
  match vs, vals, h with
  | [], _, .nil => exact .tuple [] #[] .nil
  | [v], _, .cons hv .nil => exact hv
  | x :: y :: r, _, .cons hx (.cons hy hr) =>
    rw [dif_neg (by simp)]
    exact .tuple _ _ (.cons hx (.cons hy hr))

theorem body_sound (L : LOk P C) (hc : CallsOk0 P C) (hm : P.follows .mixedOrders = true) {k : FuncId} {fn : Func} (hf : P.funcs[k]? = some fn) (hn : (fn.name == "runtime.NumGoroutine") = false) {body : Code} (hb : fn.body = some body)
    {args : List V} {hs : Heap} (hq : (Nat.ble args.length fn.ntmps && Nat.beq fn.ntmps C.ntmps && Nat.beq hs.length C.base && hs.all isBox) = true) {Kf : List V → Heap → Prop}
    (hw : wpE C body (paramsFr 0 args) hs fun e fr H => match e with
      | .exit _ => False
      | _ => bif Nat.ble hs.length H.length then resV C fr H fn.results.toList fun vs => Kf vs H else False)
    {w : World} {g0 : List G} {M : Mem} {cargs : List Value} (ha : VRs g0 M args cargs) (hr0 : HR hs g0 M w) (hG : GamOk P M) :
    CallsX P k cargs.toArray w fun val w' => ∃ vs vals H' g M', Kf vs H' ∧ VRs g M' vs vals ∧ val = (if h : vals.toArray.size = 1 then vals.toArray[0] else .tuple vals.toArray) ∧ hs.length ≤ H'.length ∧
      HR H' g M' w' ∧ Base w M (Z.of hs g0) H' g M' w' ∧ (∀ (id : Nat) (x : G), g0[id]? = some x → g[id]? = some x) ∧ (∀ (id : Nat) (x : G), g0[id]? = some x → x.fixed = true) := by
  simp only [Bool.and_eq_true] at hq
  have q1 := Nat.le_of_ble_eq_true hq.1.1.1
  have q2 := beq_true hq.1.1.2
  have q3 := beq_true hq.1.2
  have q4 := List.all_eq_true.1 hq.2
  have hlen := ha.length
  have hfix : ∀ (id : Nat) (x : G), g0[id]? = some x → x.fixed = true := by
    intro id x hx
    have hl : id < hs.length := by rw [hr0.len]; exact lt_of_get hx
    have hob := hr0.ob id _ x (List.getElem?_eq_getElem hl) hx
    have := q4 _ (List.getElem_mem hl)
    cases ho : hs[id] <;> rw [ho] at this hob <;> simp only [isBox] at this <;> try (cases this; done)
    · cases x <;> simp only [ObOk] at hob
      rfl
    · cases x <;> simp only [ObOk] at hob
      simp only [G.fixed, hob.1]
      exact this
    · cases x <;> simp only [ObOk] at hob
      simp only [G.fixed, hob.1.1, hob.1.2.1]
      exact this
  refine .inr ⟨?_, ?_⟩
  · have hn' : ¬ fn.name = "runtime.NumGoroutine" := by simpa using hn
    simp [callFunc, hf, hn', hb]
  · refine calls_of_wp hf hb ?_
    have hzn : (Z.of hs g0).n ≤ C.base := by
      show g0.length ≤ C.base
      rw [← hr0.len]; exact Nat.le_of_eq q3
    refine wpE_sound (w0 := w) (M0 := M) (own0 := Z.of hs g0) L ⟨hG, hc, hzn⟩ hm hzn body _ _ _ _ w _ hw ?_ ?_
    · refine ⟨g0, M, ⟨fun t => ?_, ?_, rfl⟩, hr0, ⟨Nat.le_refl _, fun _ _ _ => rfl, fun b hb' => .inl hb', fun _ _ h => h, fun _ _ h => .inl h, rfl, rfl, rfl, fun id b hid => hid.1⟩⟩
      · rw [paramsFr_get, if_pos (Nat.zero_le _)]
        simp only [Nat.sub_zero]
        cases e : args[t]? with
        | none => exact .undef _
        | some u =>
          obtain ⟨c, hc1, hc2⟩ := ha.get e
          have : (cargs.toArray ++ Array.replicate (fn.ntmps - cargs.toArray.size) Go.undef).getD t Go.undef = c := by
            have hlt := lt_of_get hc1
            simp only [Array.getD_eq_getD_getElem?]
            rw [Array.getElem?_append_left (by simpa using hlt)]
            simp [hc1]
          rw [this]
          exact hc2
      · simp
        omega
    · rintro e fr' H' hk a' w' ⟨g, M', hfr, hr, hbase⟩
      have fin : (bif Nat.ble hs.length H'.length then resV C fr' H' fn.results.toList fun vs => Kf vs H' else False) → a'.defers = [] ∧ ∃ u, (results fn a'.tmps).run P w' = .ok u w' ∧
          ∃ u', Ending.returned u = .returned u' ∧ ∃ vs vals H' g M', Kf vs H' ∧ VRs g M' vs vals ∧ u' = (if h : vals.toArray.size = 1 then vals.toArray[0] else .tuple vals.toArray) ∧ hs.length ≤ H'.length ∧
            HR H' g M' w' ∧ Base w M (Z.of hs g0) H' g M' w' ∧ (∀ (id : Nat) (x : G), g0[id]? = some x → g[id]? = some x) ∧ (∀ (id : Nat) (x : G), g0[id]? = some x → x.fixed = true) := by
        intro hres
        cases hle : Nat.ble hs.length H'.length with
        | false => simp only [hle, cond_false] at hres
        | true =>
        simp only [hle, cond_true] at hres
        obtain ⟨vs, vals, p1, p2, p3, p4⟩ := run_resV L hfr hr _ _ hres
        exact ⟨hfr.defers, _, run_results p3 p4, _, rfl, vs, vals, H', g, M', p1, p2, rfl, Nat.le_of_ble_eq_true hle, hr, hbase, fun id x hx => hbase.gbox id x ⟨hx, hfix id x hx⟩, hfix⟩
      cases e with
      | exit id => exact hk.elim
      | normal => exact fin hk
      | ret => exact fin hk

theorem fnOkO_of_wpFnO (L : LOk P C) (hc : CallsOk0 P C) (hm : P.follows .mixedOrders = true) {k : FuncId} {fn : Func} (hf : P.funcs[k]? = some fn) (hn : (fn.name == "runtime.NumGoroutine") = false) : FnOkO P k (wpFnO C fn) := by
  intro args hs K h
  obtain ⟨v, H1, h1, h2⟩ := wpFnO_ang hc.ang hc.drawn.ang fn args hs h
  refine ⟨v, H1, h1, h2, ?_⟩
  intro w g0 M cargs ha hr0 hG
  have hw := h2 (fun u hs => u = v ∧ hs = H1) ⟨rfl, rfl⟩
  unfold wpFnO at hw
  cases hb : fn.body with
  | none => simp only [hb] at hw
  | some body =>
    simp only [hb] at hw
    cases hq : (Nat.ble args.length fn.ntmps && Nat.beq fn.ntmps C.ntmps && Nat.beq hs.length C.base && hs.all isBox) with
    | false => simp only [hq, cond_false] at hw
    | true =>
      simp only [hq, cond_true] at hw
      refine (body_sound L hc hm hf hn hb hq (Kf := fun vs H => outO hs.length H vs fun u hs => u = v ∧ hs = H1) hw ha hr0 hG).mono ?_
      rintro val w' ⟨vs, vals, H', g, M', p1, p2, rfl, hle, hr, hbase, hgs, hfix⟩
      have full : (tup vs = v ∧ H' = H1) → ∃ g' M', VR g' M' v (if h : vals.toArray.size = 1 then vals.toArray[0] else .tuple vals.toArray) ∧ HR H1 g' M' w' ∧ Ext g0 M g' M' ∧ Base w M (Z.of hs g0) H1 g' M' w' := by
        rintro ⟨rfl, rfl⟩
        exact ⟨g, M', tup_sound p2, hr, ⟨fun id x hx => ⟨x, hgs id x hx, Gle.refl x⟩, hbase.mle⟩, hbase⟩
      unfold outO at p1
      cases hsh : shuts hs.length H' vs with
      | none => rw [hsh] at p1; exact full p1
      | some vs' =>
        rw [hsh] at p1
        simp only at p1
        cases hbl : (H'.take hs.length).all (belowOb hs.length) with
        | false => simp only [hbl, cond_false] at p1; exact full p1
        | true =>
          simp only [hbl, cond_true] at p1
          obtain ⟨rfl, rfl⟩ := p1
          have hv := tup_sound (shutsT hr p2 hsh)
          have hgt : ∀ (id : Nat) (x : G), g0[id]? = some x → (g.take hs.length)[id]? = some x := by
            intro id x hx
            have hl : id < hs.length := by rw [hr0.len]; exact lt_of_get hx
            rw [List.getElem?_take, if_pos hl]
            exact hgs id x hx
          refine ⟨g.take hs.length, memTop hs.length H' g M' w', hv.mono Ext.nil, hr.top hbl, ⟨fun id x hx => ⟨x, hgt id x hx, Gle.refl x⟩, fun b cs hb' => memTop_le _ _ _ _ _ b cs (hbase.mle b cs hb')⟩,
            ⟨hbase.size, hbase.keep, ?_, fun b cs hb' => memTop_le _ _ _ _ _ b cs (hbase.mle b cs hb'), ?_, hbase.os, hbase.tape, hbase.output, fun id x hx => hgt id x hx.1⟩⟩
          · rintro b ⟨id, o, x, k1, k2, k3⟩
            exact hbase.own b ⟨id, o, x, (take_get k1).2, (take_get k2).2, k3⟩
          · intro b cs hm'
            rcases memTop_new hm' with k | ⟨k, _⟩
            · exact hbase.mnew b cs k
            · exact .inr (hbase.own b k.own)
end
end Go.Ev

/- How a function's equation becomes a fact that its callers may use. -/
set_option linter.unusedVariables false
set_option linter.unusedSimpArgs false
namespace Go.Ev

abbrev Sm := List V → Heap → (V → Heap → Prop) → Prop

def look : List (FuncId × Sm) → FuncId → Sm
  | [], _ => fun _ _ _ => False
  | (k, S) :: r, f => bif Nat.beq f k then S else look r f

theorem fnOk_none (P : Program) (k : FuncId) : FnOk P k (fun _ _ _ => False) := fun _ _ h => h.elim

inductive Known (P : Program) : List (FuncId × Sm) → Prop
  | nil : Known P []
  | cons {k : FuncId} {S : Sm} {r : List (FuncId × Sm)} : FnOk P k S → Known P r → Known P ((k, S) :: r)

theorem known_ok {P : Program} : ∀ {l : List (FuncId × Sm)}, Known P l → ∀ f, FnOk P f (look l f)
  | _, .nil, f => fnOk_none P f
  | _, .cons (k := k) (S := S) (r := r) h t, f => by
    show FnOk P f (bif Nat.beq f k then S else look r f)
    cases e : Nat.beq f k with
    | true => rw [beq_true e]; exact h
    | false => exact known_ok t f

def tyNest : List Ty → Ty
  | [] => .unit
  | [a] => a
  | a :: r => .pair a (tyNest r)
def tyFlat (P : Program) : Nat → TypeId → Ty
  | 0, _ => .unit
  | n + 1, t => match P.underlying t with
    | some (.int k) => .int k
    | some (.float k) => .float k
    | some .bool => .bool
    | some .string => .str
    | some (.slice e) => .slice (tyFlat P n e)
    | some (.struct fs) => tyNest (fs.toList.map fun f => tyFlat P n f.type)
    | some (.array k e) => tyNest (List.replicate k (tyFlat P n e))
    | _ => .unit
def elemTy (P : Program) (t : TypeId) : Ty := match P.underlying t with
  | some (.slice e) => tyFlat P 8 e
  | _ => .unit

inductive AT where
  | cell (t : Ty)
  | agg (t : Ty)
  | fn (f : FuncId)
  | ref (t : Ty)
  | clo (f : FuncId) (t : Ty)
  | refp (t : Ty)
  | nothing

@[reducible] def AT.den : AT → Type
  | .cell t => t.den
  | .agg t => t.den
  | .fn _ => Unit
  | .ref t => t.den
  | .clo _ t => t.den
  | .refp t => t.den
  | .nothing => Unit

def decA : (a : AT) → V → Option a.den
  | .cell t, v => bif Nat.beq t.size 1 then (match dec t [v] with
    | some (x, []) => some x
    | _ => none) else none
  | .agg t, .agg vs => match dec t vs with
    | some (x, []) => some x
    | _ => none
  | .fn f, .fn g [] => bif Nat.beq f g then some () else none
  | .ref t, .ref cells off => match dec t (cells.drop off) with
    | some (x, _) => some x
    | none => none
  | .clo f t, .fn g [.ref cells off] => bif Nat.beq f g then (match dec t (cells.drop off) with
    | some (x, _) => some x
    | none => none) else none
  | .refp t, .ref cells off => match cells.drop off with
    | .ref cs o :: _ => match dec t (cs.drop o) with
      | some (x, _) => some x
      | none => none
    | _ => none
  | .nothing, .nils => some ()
  | _, _ => none

def encA : (a : AT) → a.den → V
  | .cell t, x => (enc t x).headD .undef
  | .agg t, x => .agg (enc t x)
  | .fn f, _ => .fn f []
  | .ref t, x => .ref (enc t x) 0
  | .clo f t, x => .fn f [.ref (enc t x) 0]
  | .refp t, x => .ref [.ref (enc t x) 0] 0
  | .nothing, _ => .nils

theorem ref_sound {g : List G} {M : Mem} {t : Ty} {cells : List V} {off : Nat} {x : t.den} {r : List V} (hd : dec t (cells.drop off) = some (x, r)) {c : Value} (hv : VR g M (.ref cells off) c) : VR g M (.ref (enc t x) 0) c := by
  cases hv with
  | ref _ b base _ o cs p1 p2 p3 =>
    have h1 := (dec_sound t hd (p2.drop off)).1
    have hl := h1.length
    rw [List.drop_take, List.drop_drop, List.take_take] at h1
    rw [enc_length, List.length_take, List.length_drop, List.length_take, List.length_drop] at hl
    rw [Nat.min_eq_left (by omega)] at h1
    refine .ref (enc t x) b (base + off) 0 o cs p1 ?_ (by omega)
    rw [enc_length]
    exact h1
theorem decA_sound {g : List G} {M : Mem} {a : AT} {v : V} {x : a.den} (h : decA a v = some x) {c : Value} (hv : VR g M v c) : VR g M (encA a x) c := by
  cases a with
  | nothing =>
    cases v <;> simp only [decA] at h <;> try (cases h; done)
    exact hv
  | cell t =>
    simp only [decA] at h
    cases hts : Nat.beq t.size 1 with
    | false => simp only [hts, cond_false] at h; cases h
    | true =>
    simp only [hts, cond_true] at h
    split at h
    · rename_i y hd
      cases h
      obtain ⟨h1, h2⟩ := dec_sound t hd (cs := [c]) (.cons hv .nil)
      have hl := h1.length
      have hl2 := h2.length
      simp only [encA]
      cases e : enc t x with
      | nil => exact .undef _
      | cons u us =>
        rw [e] at h1
        have hts : t.size ≠ 0 := by
          intro e0
          rw [← enc_length t x, e] at e0
          simp at e0
        rw [List.take_of_length_le (by simp; omega)] at h1
        cases h1 with
        | cons p q => exact p
    · cases h
  | agg t =>
    cases v <;> simp only [decA] at h <;> try (cases h; done)
    split at h
    · rename_i y hd
      cases h
      cases hv with
      | agg _ cs hvs =>
        obtain ⟨h1, h2⟩ := dec_sound t hd hvs
        have hl2 := h2.length
        simp only [encA]
        refine .agg _ cs ?_
        rw [List.take_of_length_le (by simp at hl2 ⊢; omega)] at h1
        exact h1
    · cases h
  | clo f t =>
    cases v <;> simp only [decA] at h <;> try (cases h; done)
    rename_i g vs
    match vs, h, hv with
    | [], h, _ => simp only [decA] at h; cases h
    | [v], h, hv =>
      cases v <;> simp only [decA] at h <;> try (cases h; done)
      rename_i cells off
      cases e : Nat.beq f g with
      | false => rw [e] at h; cases h
      | true =>
        rw [e] at h
        simp only [cond_true] at h
        split at h
        · rename_i y r hd
          cases h
          rw [← beq_true e] at hv
          cases hv with
          | fn _ _ cs0 hvs =>
            generalize hl0 : cs0.toList = l0 at hvs
            cases hvs with
            | cons a b =>
            cases b
            cases a with
            | ref _ b base _ o cs p1 p2 p3 =>
              have h1 := (dec_sound t hd (p2.drop off)).1
              have hl := h1.length
              rw [List.drop_take, List.drop_drop, List.take_take] at h1
              rw [enc_length, List.length_take, List.length_drop, List.length_take, List.length_drop] at hl
              rw [Nat.min_eq_left (by omega)] at h1
              simp only [encA]
              refine .fn f _ cs0 ?_
              rw [hl0]
              refine .cons (.ref (enc t x) b (base + off) 0 o cs p1 ?_ (by omega)) .nil
              rw [enc_length]
              exact h1
        · cases h
    | _ :: _ :: _, h, _ => simp only [decA] at h; cases h
  | ref t =>
    cases v <;> simp only [decA] at h <;> try (cases h; done)
    rename_i cells off
    split at h
    · rename_i y r hd
      cases h
      cases hv with
      | ref _ b base _ o cs p1 p2 p3 =>
        have h1 := (dec_sound t hd (p2.drop off)).1
        have hl := h1.length
        rw [List.drop_take, List.drop_drop, List.take_take] at h1
        rw [enc_length, List.length_take, List.length_drop, List.length_take, List.length_drop] at hl
        rw [Nat.min_eq_left (by omega)] at h1
        simp only [encA]
        refine .ref (enc t x) b (base + off) 0 o cs p1 ?_ (by omega)
        rw [enc_length]
        exact h1
    · cases h
  | refp t =>
    cases v <;> simp only [decA] at h <;> try (cases h; done)
    rename_i cells off
    split at h
    · rename_i cs o r hdr
      split at h
      · rename_i y r' hd
        cases h
        cases hv with
        | ref _ b base _ oo cc p1 p2 p3 =>
          have h1 := p2.drop off
          rw [hdr] at h1
          have hl := h1.length
          generalize hcc : List.drop off (List.take cells.length (List.drop base cc)) = l at h1
          cases h1 with
          | cons q1 q2 =>
            rename_i c1 cs1
            simp only [encA]
            refine .ref [.ref (enc t x) 0] b (base + off) 0 oo cc p1 ?_ (by omega)
            rw [List.drop_take, List.drop_drop] at hcc
            have hlt : off < cells.length := by
              rcases Nat.lt_or_ge off cells.length with h' | h'
              · exact h'
              · rw [List.drop_eq_nil_of_le h'] at hdr; cases hdr
            have e1 : List.take [V.ref (enc t x) 0].length (List.drop (base + off) cc) = [c1] := by
              have := congrArg (List.take 1) hcc
              rw [List.take_take, Nat.min_eq_left (by omega)] at this
              simpa using this
            rw [e1]
            exact .cons (ref_sound hd q1) .nil
      · cases h
    · cases h
  | fn f =>
    cases v <;> simp only [decA] at h <;> try (cases h; done)
    rename_i g vs
    cases vs with
    | nil =>
      simp only [decA] at h
      cases e : Nat.beq f g with
      | true => rw [← beq_true e] at hv; exact hv
      | false => rw [e] at h; cases h
    | cons _ _ => simp only [decA] at h; cases h

@[reducible] def ADen : List AT → Type
  | [] => Unit
  | a :: r => a.den × ADen r

def decAs : (l : List AT) → List V → Option (ADen l)
  | [], [] => some ()
  | a :: r, v :: vs => match decA a v with
    | some x => match decAs r vs with
      | some y => some (x, y)
      | none => none
    | none => none
  | _, _ => none

def encAs : (l : List AT) → ADen l → List V
  | [], _ => []
  | a :: r, x => encA a x.1 :: encAs r x.2

theorem decAs_sound {g : List G} {M : Mem} : ∀ {l : List AT} {vs : List V} {x : ADen l}, decAs l vs = some x → ∀ {cs : List Value}, VRs g M vs cs → VRs g M (encAs l x) cs
  | [], [], x, h, cs, hv => by cases hv; exact .nil
  | [], _ :: _, x, h, cs, hv => by simp only [decAs] at h; cases h
  | _ :: _, [], x, h, cs, hv => by simp only [decAs] at h; cases h
  | a :: r, v :: vs, x, h, cs, hv => by
    simp only [decAs] at h
    split at h
    · rename_i y h1
      split at h
      · rename_i z h2
        cases h
        cases hv with
        | cons p q => exact .cons (decA_sound h1 p) (decAs_sound h2 q)
      · cases h
    · cases h

def Wf : (t : Ty) → t.den → Prop
  | .int k, n => k.min ≤ n ∧ n ≤ k.max
  | .float k, b => b < 2 * signOf k ∧ canon k b = b
  | .bool, _ => True
  | .str, s => s.length ≤ maxLen
  | .slice t, xs => xs.length ≤ maxLen ∧ ∀ x ∈ xs, Wf t x
  | .pair a b, x => Wf a x.1 ∧ Wf b x.2
  | .unit, _ => True

theorem wf_of_VRs {g : List G} {M : Mem} : ∀ (t : Ty) (x : t.den) {cs : List Value}, VRs g M (enc t x) cs → Wf t x := by
  intro t
  induction t with
  | int k => intro x cs h; cases h with | cons a b => cases a with | int _ _ h => exact h
  | float k => intro x cs h; cases h with | cons a b => cases a with | float _ _ b' h1 h2 => subst h2; exact ⟨canon_lt h1, canon_canon k b'⟩
  | bool => intro x cs h; trivial
  | str => intro x cs h; cases h with | cons a b => cases a with | str _ _ h1 h2 => exact h2
  | slice t ih =>
    intro xs cs h
    cases h with
    | cons a b =>
      cases a with
      | vecnil => exact ⟨Nat.zero_le _, by simp⟩
      | vec _ _ b off n cap cs p1 p2 p3 p4 =>
        refine ⟨by rw [← p2.1]; exact p2.2, fun x hx => ?_⟩
        obtain ⟨i, hi⟩ := List.mem_iff_getElem?.1 hx
        exact ih x (p4 i x hi)
  | pair a b iha ihb =>
    intro x cs h
    simp only [enc] at h
    obtain ⟨h1, h2⟩ := h.split
    exact ⟨iha x.1 h1, ihb x.2 h2⟩
  | unit => intro x cs h; trivial

def WfA : (a : AT) → a.den → Prop
  | .cell t, x => Wf t x
  | .agg t, x => Wf t x
  | .fn _, _ => True
  | .ref t, x => Wf t x
  | .clo _ t, x => Wf t x
  | .refp t, x => Wf t x
  | .nothing, _ => True

def WfAs : (l : List AT) → ADen l → Prop
  | [], _ => True
  | a :: r, x => WfA a x.1 ∧ WfAs r x.2

def semT (l : List AT) (f : ADen l → V) : Sm := fun args hs K =>
  match decAs l args with
  | some x => K (f x) hs
  | none => False

theorem wfA_of {g : List G} {M : Mem} {a : AT} {v : V} {x : a.den} (h : decA a v = some x) {c : Value} (hv : VR g M v c) : WfA a x := by
  cases a with
  | nothing => trivial
  | cell t =>
    simp only [decA] at h
    cases hts : Nat.beq t.size 1 with
    | false => simp only [hts, cond_false] at h; cases h
    | true =>
    simp only [hts, cond_true] at h
    split at h
    · rename_i y hd
      cases h
      exact wf_of_VRs t x (dec_sound t hd (cs := [c]) (.cons hv .nil)).1
    · cases h
  | agg t =>
    cases v <;> simp only [decA] at h <;> try (cases h; done)
    split at h
    · rename_i y hd
      cases h
      cases hv with
      | agg _ cs hvs => exact wf_of_VRs t x (dec_sound t hd hvs).1
    · cases h
  | ref t =>
    cases v <;> simp only [decA] at h <;> try (cases h; done)
    rename_i cells off
    split at h
    · rename_i y r hd
      cases h
      cases hv with
      | ref _ b base _ o cs p1 p2 p3 => exact wf_of_VRs t x (dec_sound t hd (p2.drop off)).1
    · cases h
  | clo f t =>
    cases v <;> simp only [decA] at h <;> try (cases h; done)
    rename_i g vs
    match vs, h, hv with
    | [], h, _ => simp only [decA] at h; cases h
    | [v], h, hv =>
      cases v <;> simp only [decA] at h <;> try (cases h; done)
      rename_i cells off
      cases e : Nat.beq f g with
      | false => rw [e] at h; cases h
      | true =>
        rw [e] at h
        simp only [cond_true] at h
        split at h
        · rename_i y r hd
          cases h
          cases hv with
          | fn _ _ cs0 hvs =>
            generalize hl0 : cs0.toList = l0 at hvs
            cases hvs with
            | cons a b =>
            cases a with
            | ref _ b base _ o cs p1 p2 p3 => exact wf_of_VRs t x (dec_sound t hd (p2.drop off)).1
        · cases h
    | _ :: _ :: _, h, _ => simp only [decA] at h; cases h
  | refp t =>
    cases v <;> simp only [decA] at h <;> try (cases h; done)
    rename_i cells off
    split at h
    · rename_i cs o r hdr
      split at h
      · rename_i y r' hd
        cases h
        cases hv with
        | ref _ b base _ oo cc p1 p2 p3 =>
          have h1 := p2.drop off
          rw [hdr] at h1
          generalize List.drop off (List.take cells.length (List.drop base cc)) = l at h1
          cases h1 with
          | cons q1 q2 =>
            cases q1 with
            | ref _ b base _ o cs p1 p2 p3 => exact wf_of_VRs t x (dec_sound t hd (p2.drop _)).1
      · cases h
    · cases h
  | fn f => trivial

theorem wfAs_of {g : List G} {M : Mem} : ∀ {l : List AT} {vs : List V} {x : ADen l}, decAs l vs = some x → ∀ {cs : List Value}, VRs g M vs cs → WfAs l x
  | [], [], x, h, cs, hv => trivial
  | [], _ :: _, x, h, cs, hv => by simp only [decAs] at h; cases h
  | _ :: _, [], x, h, cs, hv => by simp only [decAs] at h; cases h
  | a :: r, v :: vs, x, h, cs, hv => by
    simp only [decAs] at h
    split at h
    · rename_i y h1
      split at h
      · rename_i z h2
        cases h
        cases hv with
        | cons p q => exact ⟨wfA_of h1 p, wfAs_of h2 q⟩
      · cases h
    · cases h

theorem fnOk_typed {P : Program} {k : FuncId} {S : Sm} (hS : FnOk P k S) {l : List AT} {f : ADen l → V} (h : ∀ (x : ADen l), WfAs l x → ∀ (K : V → Heap → Prop), K (f x) [] → S (encAs l x) [] K) : FnOk P k (semT l f) := by
  intro args K hk
  simp only [semT] at hk
  split at hk
  · rename_i x hd
    refine ⟨f x, hk, fun K' h' => ?_, ?_⟩
    · simp only [semT, hd]; exact h'
    · intro w M cargs hv hm hG
      obtain ⟨v, h1, h2, h3⟩ := hS (encAs l x) (fun v hs => v = f x ∧ hs = []) (h x (wfAs_of hd hv) _ ⟨rfl, rfl⟩)
      obtain ⟨rfl, _⟩ := h1
      exact h3 w M cargs (decAs_sound hd hv) hm hG
  · exact hk.elim

def semG (l : List AT) (gd : ADen l → Bool) (f : ADen l → V) : Sm := fun args hs K =>
  match decAs l args with
  | some x => cond (gd x) (K (f x) hs) False
  | none => False

theorem fnOk_typedG {P : Program} {k : FuncId} {S : Sm} (hS : FnOk P k S) {l : List AT} {gd : ADen l → Bool} {f : ADen l → V} (h : ∀ (x : ADen l), WfAs l x → gd x = true → ∀ (K : V → Heap → Prop), K (f x) [] → S (encAs l x) [] K) : FnOk P k (semG l gd f) := by
  intro args K hk
  simp only [semG] at hk
  split at hk
  · rename_i x hd
    cases hgd : gd x with
    | false => simp only [hgd, cond_false] at hk
    | true =>
    simp only [hgd, cond_true] at hk
    refine ⟨f x, hk, fun K' h' => ?_, ?_⟩
    · simp only [semG, hd, hgd, cond_true]; exact h'
    · intro w M cargs hv hm hG
      obtain ⟨v, h1, h2, h3⟩ := hS (encAs l x) (fun v hs => v = f x ∧ hs = []) (h x (wfAs_of hd hv) hgd _ ⟨rfl, rfl⟩)
      obtain ⟨rfl, _⟩ := h1
      exact h3 w M cargs (decAs_sound hd hv) hm hG
  · exact hk.elim

theorem fnOkO_none (P : Program) (k : FuncId) : FnOkL P k (fun _ _ _ => False) := ⟨fun _ _ _ h => h.elim, fun _ _ _ _ h => h.elim⟩

inductive KnownO (P : Program) : List (FuncId × Sm) → Prop
  | nil : KnownO P []
  | cons {k : FuncId} {S : Sm} {r : List (FuncId × Sm)} : FnOkL P k S → KnownO P r → KnownO P ((k, S) :: r)

theorem knownO_ok {P : Program} : ∀ {l : List (FuncId × Sm)}, KnownO P l → ∀ f, FnOkL P f (look l f)
  | _, .nil, f => fnOkO_none P f
  | _, .cons (k := k) (S := S) (r := r) h t, f => by
    show FnOkL P f (bif Nat.beq f k then S else look r f)
    cases e : Nat.beq f k with
    | true => rw [beq_true e]; exact h
    | false => exact knownO_ok t f

def has : List (FuncId × Sm) → FuncId → Bool
  | [], _ => false
  | (k, _) :: r, f => bif Nat.beq f k then true else has r f

inductive KnownE (P : Program) : List (FuncId × Sm) → Prop
  | nil : KnownE P []
  | cons {k : FuncId} {S : Sm} {r : List (FuncId × Sm)} : FnOkL P k S → LocalE S → KnownE P r → KnownE P ((k, S) :: r)
theorem knownE_ok {P : Program} : ∀ {l : List (FuncId × Sm)}, KnownE P l → ∀ f, FnOkL P f (look l f) ∧ LocalE (look l f)
  | _, .nil, f => ⟨fnOkO_none P f, fun _ _ _ _ _ _ h => h.elim⟩
  | _, .cons (k := k) (S := S) (r := r) h e t, f => by
    show FnOkL P f (bif Nat.beq f k then S else look r f) ∧ LocalE (bif Nat.beq f k then S else look r f)
    cases e' : Nat.beq f k with
    | true => rw [beq_true e']; exact ⟨h, e⟩
    | false => exact knownE_ok t f
def mkC (P : Program) (ty : TypeId → Ty) (kv kf ko : List (FuncId × Sm)) (n : Nat) (ann : Nat → Option Ann) (base : Nat) (cut : Bool := false) (kd : List (FuncId × Sm) := []) (deep : Bool := false) (mv : Bool := false) (vw : Bool := false) (ke : List (FuncId × Sm) := []) : Ctx :=
  { ti := tiOf P ty, call := fun f => bif has ke f then look ke f else bif has ko f then look ko f else bif has kf f then look kf f else look kv f,
    pass := fun f => bif has ke f then .own else bif has ko f then .own else bif has kf f then .freeze else .view, ntmps := n, ann := ann, base := base, cut := cut, deep := deep, mv := mv, vw := vw
    es := has ke
    esD := fun f => bif has kd f then false else has ke f
    callD := fun f => bif has kd f then look kd f else bif has ke f then look ke f else bif has ko f then look ko f else bif has kf f then look kf f else look kv f
    passD := fun f => bif has kd f then .view else bif has ke f then .own else bif has ko f then .own else bif has kf f then .freeze else .view }

theorem mkC_calls {P : Program} {ty : TypeId → Ty} {kv kf ko : List (FuncId × Sm)} {n : Nat} {ann : Nat → Option Ann} {base : Nat} {cut : Bool} {kd : List (FuncId × Sm)} {deep mv vw : Bool} {ke : List (FuncId × Sm)} (h1 : Known P kv) (h2 : Known P kf) (h3 : KnownO P ko) (h4 : Known P kd) (h5 : KnownE P ke) : CallsOk0 P (mkC P ty kv kf ko n ann base cut kd deep mv vw ke) := by
  refine ⟨?_, ?_, ?_, ?_⟩
  · intro f
    simp only [mkC]
    cases e0 : has ke f with
    | true => simp only [cond_true]; exact (knownE_ok h5 f).1
    | false =>
    simp only [cond_false]
    cases e : has ko f with
    | true => simp only [cond_true]; exact knownO_ok h3 f
    | false =>
      simp only [cond_false]
      cases e2 : has kf f with
      | true => simp only [cond_true]; exact known_ok h2 f
      | false => simp only [cond_false]; exact known_ok h1 f
  · intro f
    simp only [mkC, Ctx.drawn]
    cases e0 : has kd f with
    | true => simp only [cond_true]; exact known_ok h4 f
    | false =>
    simp only [cond_false]
    cases e0 : has ke f with
    | true => simp only [cond_true]; exact (knownE_ok h5 f).1
    | false =>
    simp only [cond_false]
    cases e : has ko f with
    | true => simp only [cond_true]; exact knownO_ok h3 f
    | false =>
      simp only [cond_false]
      cases e2 : has kf f with
      | true => simp only [cond_true]; exact known_ok h2 f
      | false => simp only [cond_false]; exact known_ok h1 f
  · intro f _ he
    simp only [mkC] at he ⊢
    rw [he, cond_true]
    exact (knownE_ok h5 f).2
  · intro f _ he
    simp only [mkC, Ctx.drawn] at he ⊢
    cases e0 : has kd f with
    | true => rw [e0, cond_true] at he; cases he
    | false =>
      rw [e0, cond_false] at he
      rw [cond_false, he, cond_true]
      exact (knownE_ok h5 f).2

theorem fnOk_runC {P : Program} {C : Ctx} {ty : TypeId → Ty} {kv kf ko : List (FuncId × Sm)} {n : Nat} {ann : Nat → Option Ann} {cut : Bool} {kd : List (FuncId × Sm)} {deep mv vw : Bool} {ke : List (FuncId × Sm)} (hC : C = mkC P ty kv kf ko n ann 0 cut kd deep mv vw ke) (hm : P.follows .mixedOrders = true)
    (h1 : Known P kv) (h2 : Known P kf) (h3 : KnownO P ko) {k : FuncId} {fn : Func} (hf : P.funcs[k]? = some fn) (hn : (fn.name == "runtime.NumGoroutine") = false) (h4 : Known P kd := by exact .nil) (h5 : KnownE P ke := by exact .nil) : FnOk P k (wpFn C fn) := by
  subst hC
  exact fnOk_of_wpFn (lok_tiOf P ty _ rfl) (mkC_calls h1 h2 h3 h4 h5) hm hf hn

theorem fnOkO_runC {P : Program} {C : Ctx} {ty : TypeId → Ty} {kv kf ko : List (FuncId × Sm)} {n : Nat} {ann : Nat → Option Ann} {base : Nat} {cut : Bool} {kd : List (FuncId × Sm)} {deep mv vw : Bool} {ke : List (FuncId × Sm)} (hC : C = mkC P ty kv kf ko n ann base cut kd deep mv vw ke) (hm : P.follows .mixedOrders = true)
    (h1 : Known P kv) (h2 : Known P kf) (h3 : KnownO P ko) {k : FuncId} {fn : Func} (hf : P.funcs[k]? = some fn) (hn : (fn.name == "runtime.NumGoroutine") = false) (h4 : Known P kd := by exact .nil) (h5 : KnownE P ke := by exact .nil) : FnOkO P k (wpFnO C fn) := by
  subst hC
  exact fnOkO_of_wpFnO (lok_tiOf P ty _ rfl) (mkC_calls h1 h2 h3 h4 h5) hm hf hn

theorem immut_encA : ∀ (a : AT) (x : a.den), immut (encA a x) = true
  | .cell t, x => by
    simp only [encA]
    have := immuts_enc t x
    cases e : enc t x with
    | nil => rfl
    | cons u us => rw [e] at this; simp only [immuts, Bool.and_eq_true] at this; exact this.1
  | .agg t, x => by simp only [encA, immut]; exact immuts_enc t x
  | .fn f, x => rfl
  | .ref t, x => by simp only [encA, immut]; exact immuts_enc t x
  | .clo f t, x => by simp only [encA, immut, immuts, immuts_enc t x]; rfl
  | .refp t, x => by simp only [encA, immut, immuts, immuts_enc t x]; rfl
  | .nothing, x => rfl
theorem immuts_encAs : ∀ (l : List AT) (x : ADen l), immuts (encAs l x) = true
  | [], _ => rfl
  | a :: r, x => by simp only [encAs, immuts, immut_encA a x.1, immuts_encAs r x.2]; rfl

def semP (t : Ty) (l : List AT) (gd : t.den → ADen l → Bool) (f : t.den → ADen l → V × t.den) : Sm := fun args H K =>
  match args with
  | .ptr id off :: r =>
    match H[id]? with
    | some (.box cells) =>
      match dec t cells with
      | some (s, []) =>
        match decAs l r with
        | some x => bif Nat.beq off 0 && immut (f s x).1 then cond (gd s x) (K (f s x).1 (H.set id (.box (enc t (f s x).2)))) False else False
        | none => False
      | _ => False
    | _ => False
  | _ => False

def semN (t : Ty) (l : List AT) (f : ADen l → t.den) : Sm := fun args H K =>
  match decAs l args with
  | some x => K (.ptr H.length 0) (H ++ [.box (enc t (f x))])
  | none => False

theorem own_one {cells : List V} {b b' : Nat} (h : Own [.box cells] [.box b] b') : b' = b := by
  obtain ⟨id, o, x, h1, h2, h3⟩ := h
  cases id with
  | zero => cases h1; cases h2; simp only [ownB] at h3; exact h3.symm
  | succ n => cases h1

theorem fnOkO_box0 {P : Program} {k : FuncId} {S : Sm} (hS : FnOkO P k S) {t : Ty} {l : List AT} {gd : t.den → ADen l → Bool} {f : t.den → ADen l → V × t.den}
    (h : ∀ (s : t.den) (x : ADen l), Wf t s → WfAs l x → gd s x = true → ∀ (K : V → Heap → Prop), K (f s x).1 [.box (enc t (f s x).2)] → S (.ptr 0 0 :: encAs l x) [.box (enc t s)] K) : FnOkO P k (semP t l gd f) := by
  intro args H K hk
  simp only [semP] at hk
  split at hk
  · rename_i id off r
    split at hk
    · rename_i cells hid
      split at hk
      · rename_i s hd
        split at hk
        · rename_i x hx
          cases hi : (Nat.beq off 0 && immut (f s x).1) with
          | false => simp only [hi, cond_false] at hk
          | true =>
            simp only [hi, cond_true] at hk
            cases hgd : gd s x with
            | false => simp only [hgd, cond_false] at hk
            | true =>
            simp only [hgd, cond_true] at hk
            refine ⟨_, _, hk, fun K' h' => by simp only [semP, hid, hd, hx, hi, hgd, cond_true]; exact h', ?_⟩
            simp only [Bool.and_eq_true] at hi
            have hoff := beq_true hi.1
            subst hoff
            intro w g M cargs hv hr hG
            cases hv with
            | cons hp hrest =>
            cases hp with
            | ptr _ _ b hb =>
            have hob := hr.ob id _ _ hid hb
            simp only [ObOk] at hob
            obtain ⟨c, T, fz, k1, k2, k3, k4⟩ := hob
            obtain ⟨d1, d2⟩ := dec_sound t hd k2
            have hcl : c.toList.length = t.size := by
              have := d2.length
              have := d1.length
              rw [enc_length] at this
              simp at *
              omega
            have d1' : VRs g M (enc t s) c.toList := by rwa [List.take_of_length_le (by omega)] at d1
            have hws : Wf t s := wf_of_VRs t s d1'
            have hwx : WfAs l x := wfAs_of hx hrest
            obtain ⟨v, H1, h1, h2, h3⟩ := hS (.ptr 0 0 :: encAs l x) [.box (enc t s)] (fun v hs => v = (f s x).1 ∧ hs = [.box (enc t (f s x).2)]) (h s x hws hwx hgd _ ⟨rfl, rfl⟩)
            obtain ⟨rfl, rfl⟩ := h1
            have hr1 : HR [.box (enc t s)] [.box b] M w := by
              refine ⟨rfl, ?_, ?_, hr.mem⟩
              · intro j o y p1 p2
                cases j with
                | zero =>
                  cases p1; cases p2
                  exact ⟨c, T, fz, k1, d1'.imm (immuts_enc t s), k3, k4⟩
                | succ j => cases p1
              · intro j j' o o' y y' bb p1 p2 p3 p4 _ _
                cases j with
                | zero => cases j' with
                  | zero => rfl
                  | succ j' => cases p3
                | succ j => cases p1
            refine (h3 w [.box b] M _ (.cons (.ptr 0 0 b rfl) ((decAs_sound hx hrest).imm (immuts_encAs l x))) hr1 hG).mono ?_
            rintro val w' ⟨g', M', q1, q2, q3, q4⟩
            have hg' : g' = [.box b] := by
              obtain ⟨x', e1, e2⟩ := q3.g 0 _ rfl
              have hl := q2.len
              cases x' with
              | sl _ _ _ => simp only [Gle] at e2
              | bld _ _ => simp only [Gle] at e2
              | dp _ _ _ _ _ _ => simp only [Gle] at e2
              | box b' =>
                simp only [Gle] at e2
                subst e2
                match g', e1, hl with
                | [y], e1, _ => cases e1; rfl
            subst hg'
            have hE : Ext g M g M' := Ext.mem q3.m
            have hmn : ∀ b', M' b' ≠ none → M b' ≠ none ∨ b' = b ∨ w.heap.size ≤ b' := by
              intro b' hn
              cases e : M' b' with
              | none => exact absurd e hn
              | some cs =>
                rcases q4.mnew b' cs e with k | k | k
                · exact .inl (by rw [k]; exact fun e => by cases e)
                · exact .inr (.inl (own_one k))
                · exact .inr (.inr k)
            have hother : ∀ (j : Nat) (o : Ob) (y : G) (b' : Nat), j ≠ id → H[j]? = some o → g[j]? = some y → ownB o y b' → w'.heap[b']? = w.heap[b']? ∧ M' b' = none := by
              intro j o y b' hne p1 p2 p3
              have hlt := Ev.own_lt (hr.ob j o y p1 p2) p3
              have hbb : b' ≠ b := by
                intro e
                subst e
                exact hne (hr.apart j id o _ y _ b' p1 p2 hid hb p3 rfl)
              refine ⟨q4.keep b' hlt.1 fun ho => hbb (own_one ho), ?_⟩
              cases e : M' b' with
              | none => rfl
              | some cs =>
                rcases hmn b' (by rw [e]; exact fun e => by cases e) with k | k | k
                · exact absurd hlt.2 k
                · exact absurd k hbb
                · omega
            have hidl : id < H.length := lt_of_get hid
            have key : ∀ (j : Nat) (y : Ob), (H.set id (.box (enc t (f s x).2)))[j]? = some y → (j = id ∧ y = .box (enc t (f s x).2)) ∨ (j ≠ id ∧ H[j]? = some y) := by
              intro j y hj
              by_cases e : id = j
              · subst e
                simp [List.getElem?_set, hidl] at hj
                exact .inl ⟨rfl, hj.symm⟩
              · simp [List.getElem?_set, e] at hj
                exact .inr ⟨fun e' => e e'.symm, hj⟩
            have hob1 := q2.ob 0 _ _ rfl rfl
            simp only [ObOk] at hob1
            obtain ⟨c', T', fz', m1, m2, m3, m4⟩ := hob1
            refine ⟨g, M', q1.imm hi.2, ⟨by simp [hr.len], ?_, ?_, q2.mem⟩, hE, ⟨q4.size, ?_, ?_, q4.mle, ?_, q4.os, q4.tape, q4.output, fun _ _ h => h.1⟩⟩
            · intro j o y p1 p2
              rcases key j o p1 with ⟨rfl, rfl⟩ | ⟨hne, p3⟩
              · rw [hb] at p2; cases p2
                exact ⟨c', T', fz', m1, m2.imm (immuts_enc t _), m3, m4⟩
              · exact (hr.ob j o y p3 p2).frame hE fun b' hb' => hother j o y b' hne p3 p2 hb'
            · intro j j' o o' y y' bb p1 p2 p3 p4 p5 p6
              rcases key j o p1 with ⟨rfl, rfl⟩ | ⟨hne, r1⟩ <;> rcases key j' o' p3 with ⟨rfl, rfl⟩ | ⟨hne', r2⟩
              · rfl
              · exact hr.apart _ _ _ _ _ _ bb hid p2 r2 p4 (by cases y <;> simp [ownB] at p5 ⊢; exact p5) p6
              · exact hr.apart _ _ _ _ _ _ bb r1 p2 hid p4 p5 (by cases y' <;> simp [ownB] at p6 ⊢; exact p6)
              · exact hr.apart _ _ _ _ _ _ bb r1 p2 r2 p4 p5 p6
            · intro b' hb1 hb2
              refine q4.keep b' hb1 fun ho => hb2 ?_
              rw [own_one ho]
              exact ⟨id, _, _, hid, hb, rfl⟩
            · rintro b' ⟨j, o, y, p1, p2, p3⟩
              rcases key j o p1 with ⟨rfl, rfl⟩ | ⟨hne, r1⟩
              · rw [hb] at p2; cases p2
                simp only [ownB] at p3
                subst p3
                exact .inl ⟨j, _, _, hid, hb, rfl⟩
              · exact .inl ⟨j, o, y, r1, p2, p3⟩
            · intro b' cs hm'
              rcases q4.mnew b' cs hm' with k | k | k
              · exact .inl k
              · exact .inr (.inl (by rw [own_one k]; exact ⟨id, _, _, hid, hb, rfl⟩))
              · exact .inr (.inr k)
        · exact hk.elim
      · exact hk.elim
    · exact hk.elim
  · exact hk.elim

theorem fnOkO_new0 {P : Program} {k : FuncId} {S : Sm} (hS : FnOkO P k S) {t : Ty} {l : List AT} {f : ADen l → t.den}
    (h : ∀ (x : ADen l), WfAs l x → ∀ (K : V → Heap → Prop), K (.ptr 0 0) [.box (enc t (f x))] → S (encAs l x) [] K) : FnOkO P k (semN t l f) := by
  intro args H K hk
  simp only [semN] at hk
  split at hk
  · rename_i x hx
    refine ⟨_, _, hk, fun K' h' => by simp only [semN, hx]; exact h', ?_⟩
    intro w g M cargs hv hr hG
    have hwx : WfAs l x := wfAs_of hx hv
    obtain ⟨v, H1, h1, h2, h3⟩ := hS (encAs l x) [] (fun v hs => v = .ptr 0 0 ∧ hs = [.box (enc t (f x))]) (h x hwx _ ⟨rfl, rfl⟩)
    obtain ⟨rfl, rfl⟩ := h1
    have hr1 : HR [] [] M w := ⟨rfl, (by intro j o y p1; cases p1), (by intro j j' o o' y y' b p1; cases p1), hr.mem⟩
    refine (h3 w [] M _ ((decAs_sound hx hv).imm (immuts_encAs l x)) hr1 hG).mono ?_
    rintro val w' ⟨g', M', q1, q2, q3, q4⟩
    have hno : ∀ b, ¬ Own ([] : Heap) ([] : List G) b := by rintro b ⟨j, o, y, p1, _⟩; cases p1
    obtain ⟨b, rfl⟩ : ∃ b, g' = [.box b] := by
      have hl := q2.len
      match g', hl with
      | [y], _ =>
        have := q2.ob 0 _ y rfl rfl
        cases y with
        | box b => exact ⟨b, rfl⟩
        | sl _ _ _ => exact this.elim
        | bld _ _ => exact this.elim
        | dp _ _ _ _ _ _ => exact this.elim
    cases q1 with
    | ptr _ _ b' e =>
    cases e
    have hob1 := q2.ob 0 _ _ rfl rfl
    simp only [ObOk] at hob1
    obtain ⟨c', T', fz', m1, m2, m3, m4⟩ := hob1
    have hnew : w.heap.size ≤ b := by
      rcases q4.own b ⟨0, _, _, rfl, rfl, rfl⟩ with k | k
      · exact absurd k (hno b)
      · exact k
    have hE : Ext g M (g ++ [.box b]) M' := (Ext.snoc g M (.box b)).trans (Ext.mem q3.m)
    have hold : ∀ (j : Nat) (o : Ob) (y : G) (b' : Nat), H[j]? = some o → g[j]? = some y → ownB o y b' → b' < w.heap.size ∧ w'.heap[b']? = w.heap[b']? ∧ M' b' = none := by
      intro j o y b' p1 p2 p3
      have hlt := Ev.own_lt (hr.ob j o y p1 p2) p3
      refine ⟨hlt.1, q4.keep b' hlt.1 (hno b'), ?_⟩
      cases e : M' b' with
      | none => rfl
      | some cs =>
        rcases q4.mnew b' cs e with k | k | k
        · rw [hlt.2] at k; cases k
        · exact absurd k (hno b')
        · omega
    have keyH : ∀ (j : Nat) (o : Ob) (y : G), (H ++ [.box (enc t (f x))])[j]? = some o → (g ++ [.box b])[j]? = some y → (j = H.length ∧ o = .box (enc t (f x)) ∧ y = .box b) ∨ (j < H.length ∧ H[j]? = some o ∧ g[j]? = some y) := by
      intro j o y p1 p2
      rw [getElem?_snoc] at p1 p2
      rw [← hr.len] at p2
      split at p1
      · rename_i hl; rw [if_pos hl] at p2; exact .inr ⟨hl, p1, p2⟩
      · rename_i hl
        rw [if_neg hl] at p2
        split at p1
        · rename_i he; rw [if_pos he] at p2; cases p1; cases p2; exact .inl ⟨he, rfl, rfl⟩
        · cases p1
    refine ⟨g ++ [.box b], M', .ptr _ 0 b (by rw [hr.len, List.getElem?_append_right (Nat.le_refl _)]; simp), ⟨by simp [hr.len], ?_, ?_, q2.mem⟩, hE, ⟨q4.size, fun b' hb1 _ => q4.keep b' hb1 (hno b'), ?_, q4.mle, ?_, q4.os, q4.tape, q4.output, fun _ _ h => by rw [List.getElem?_append_left (lt_of_get h.1)]; exact h.1⟩⟩
    · intro j o y p1 p2
      rcases keyH j o y p1 p2 with ⟨rfl, rfl, rfl⟩ | ⟨hl, p3, p4⟩
      · exact ⟨c', T', fz', m1, m2.imm (immuts_enc t _), m3, m4⟩
      · exact (hr.ob j o y p3 p4).frame hE fun b' hb' => (hold j o y b' p3 p4 hb').2
    · intro j j' o o' y y' bb p1 p2 p3 p4 p5 p6
      rcases keyH j o y p1 p2 with ⟨rfl, rfl, rfl⟩ | ⟨hl, r1, r2⟩ <;> rcases keyH j' o' y' p3 p4 with ⟨rfl, rfl, rfl⟩ | ⟨hl', r3, r4⟩
      · rfl
      · simp only [ownB] at p5
        subst p5
        have := (hold j' o' y' _ r3 r4 p6).1
        omega
      · simp only [ownB] at p6
        subst p6
        have := (hold j o y _ r1 r2 p5).1
        omega
      · exact hr.apart _ _ _ _ _ _ bb r1 r2 r3 r4 p5 p6
    · rintro b' ⟨j, o, y, p1, p2, p3⟩
      rcases keyH j o y p1 p2 with ⟨rfl, rfl, rfl⟩ | ⟨hl, r1, r2⟩
      · simp only [ownB] at p3
        subst p3
        exact .inr hnew
      · exact .inl ⟨j, o, y, r1, r2, p3⟩
    · intro b' cs hm'
      rcases q4.mnew b' cs hm' with k | k | k
      · exact .inl k
      · exact absurd k (hno b')
      · exact .inr (.inr k)
  · exact hk.elim

theorem semP_local (t : Ty) (l : List AT) (gd : t.den → ADen l → Bool) (f : t.den → ADen l → V × t.den) : LocalS (semP t l gd f) := by
  intro v r H K h
  cases v <;> simp only [semP] at h ⊢
  rename_i id off
  split at h
  · rename_i cells hid
    split at h
    · rename_i s hd
      split at h
      · rename_i x hx
        cases hi : (Nat.beq off 0 && immut (f s x).1) with
        | false => simp only [hi, cond_false] at h
        | true =>
          cases hg : gd s x with
          | false => simp only [hi, hg, cond_true, cond_false] at h
          | true =>
            simp only [hi, hg, cond_true] at h
            simp only [hid, hd, hx, hi, hg, cond_true]
            exact ⟨h, .ptr (.set _ _ _)⟩
      · exact h.elim
    · exact h.elim
  · exact h.elim
theorem semP_localE (t : Ty) (l : List AT) (gd : t.den → ADen l → Bool) (f : t.den → ADen l → V × t.den) : LocalE (semP t l gd f) := by
  intro v r H K tt ht h
  cases v <;> simp only [semP] at h ⊢
  rename_i id off
  have ht : tt = some id := by
    unfold touchL at ht
    cases hi : immuts r with
    | false => simp only [hi, cond_false] at ht; cases ht
    | true => simp only [hi, cond_true, cond_false] at ht; cases ht; rfl
  subst ht
  split at h
  · rename_i cells hid
    split at h
    · rename_i s hd
      split at h
      · rename_i x hx
        cases hi : (Nat.beq off 0 && immut (f s x).1) with
        | false => simp only [hi, cond_false] at h
        | true =>
          cases hg : gd s x with
          | false => simp only [hi, hg, cond_true, cond_false] at h
          | true =>
            simp only [hi, hg, cond_true] at h
            simp only [hid, hd, hx, hi, hg, cond_true]
            exact ⟨h, .set _ _ _⟩
      · exact h.elim
    · exact h.elim
  · exact h.elim
theorem semN_local (t : Ty) (l : List AT) (f : ADen l → t.den) : LocalS (semN t l f) := by
  intro v r H K h
  unfold semN at h ⊢
  split at h
  · rename_i x hx
    exact ⟨h, .of fun _ => .app _ _ _⟩
  · exact h.elim

theorem fnOkO_box {P : Program} {k : FuncId} {S : Sm} (hS : FnOkO P k S) {t : Ty} {l : List AT} {gd : t.den → ADen l → Bool} {f : t.den → ADen l → V × t.den}
    (h : ∀ (s : t.den) (x : ADen l), Wf t s → WfAs l x → gd s x = true → ∀ (K : V → Heap → Prop), K (f s x).1 [.box (enc t (f s x).2)] → S (.ptr 0 0 :: encAs l x) [.box (enc t s)] K) : FnOkL P k (semP t l gd f) := ⟨fnOkO_box0 hS h, semP_local _ _ _ _⟩
theorem fnOkO_new {P : Program} {k : FuncId} {S : Sm} (hS : FnOkO P k S) {t : Ty} {l : List AT} {f : ADen l → t.den}
    (h : ∀ (x : ADen l), WfAs l x → ∀ (K : V → Heap → Prop), K (.ptr 0 0) [.box (enc t (f x))] → S (encAs l x) [] K) : FnOkL P k (semN t l f) := ⟨fnOkO_new0 hS h, semN_local _ _ _⟩
end Go.Ev

/- A law's arguments, read as plain values; and the frame of a law's row. -/
set_option linter.unusedVariables false
set_option linter.unusedSimpArgs false
namespace Go.Ev
open Go.WideShapes Go.RowKit

mutual
def tyFits (P : Program) : Nat → TypeId → Ty → Bool
  | 0, _, _ => false
  | n + 1, T, t =>
    match P.underlying T, t with
    | some .bool, .bool => true
    | some (.int k), .int k' => k == k'
    | some (.float k), .float k' => k == k'
    | some .string, .str => true
    | some (.slice e), .slice t => Nat.beq (P.cellsOf e) t.size && !Nat.beq t.size 0 && tyFits P n e t
    | some (.struct fs), t => Nat.beq (P.cellsOf T) t.size && fieldsFit P n fs.toList 0 t
    | some (.array m e), t => Nat.beq (P.cellsOf T) t.size && elemsFit P n e m 0 t
    | _, _ => false
def fieldsFit (P : Program) : Nat → List Field → Nat → Ty → Bool
  | 0, _, _, _ => false
  | _ + 1, [], _, _ => false
  | n + 1, [f], off, t => Nat.beq f.offset off && Nat.beq (P.cellsOf f.type) t.size && tyFits P n f.type t
  | n + 1, f :: r, off, .pair a b => Nat.beq f.offset off && Nat.beq (P.cellsOf f.type) a.size && tyFits P n f.type a && fieldsFit P n r (off + a.size) b
  | _ + 1, _ :: _ :: _, _, _ => false
def elemsFit (P : Program) : Nat → TypeId → Nat → Nat → Ty → Bool
  | 0, _, _, _, _ => false
  | _ + 1, _, 0, _, _ => false
  | n + 1, e, 1, i, t => Nat.beq (P.cellsOf e) t.size && tyFits P n e t
  | n + 1, e, m + 2, i, .pair a b => Nat.beq (P.cellsOf e) a.size && tyFits P n e a && elemsFit P n e (m + 1) (i + 1) b
  | _ + 1, _, _ + 2, _, _ => false
end

def memOf (W : World) : Mem := fun b => match W.heap[b]? with | some (.cells c _ _) => some c.toList | _ => none
theorem memOf_ok (W : World) : MemOk (memOf W) W := by
  intro b cs h
  unfold memOf at h
  split at h
  · rename_i c T fz hc
    cases h
    exact ⟨c, T, fz, hc, rfl⟩
  · cases h

theorem mapM_range {α : Type} (f : Nat → Option α) : ∀ (n : Nat) (xs : List α), (List.range n).mapM f = some xs → xs.length = n ∧ ∀ i, i < n → ∃ x, xs[i]? = some x ∧ f i = some x := by
  have gen : ∀ (l : List Nat) (xs : List α), l.mapM f = some xs → xs.length = l.length ∧ ∀ (i : Nat) (j : Nat), l[i]? = some j → ∃ x, xs[i]? = some x ∧ f j = some x := by
    intro l
    induction l with
    | nil => intro xs h; simp at h; subst h; simp
    | cons j l ih =>
      intro xs h
      simp only [List.mapM_cons, Option.bind_eq_bind, Option.bind_eq_some_iff, Option.pure_def] at h
      obtain ⟨x, hx, ys, hys, e⟩ := h
      cases e
      obtain ⟨h1, h2⟩ := ih ys hys
      refine ⟨by simp [h1], ?_⟩
      intro i k hk
      cases i with
      | zero => simp at hk; subst hk; exact ⟨x, rfl, hx⟩
      | succ i => exact h2 i k (by simpa using hk)
  intro n xs h
  obtain ⟨h1, h2⟩ := gen _ xs h
  refine ⟨by simpa using h1, fun i hi => h2 i i ?_⟩
  simp [List.getElem?_range, hi]

theorem cells?_some {W : World} {base : Nat} {a : Addr} {n : Nat} {cs : List Value} (h : W.cells? base a n = some cs) : cs.length = n ∧ ∀ i, i < n → ∃ c, cs[i]? = some c ∧ W.cell? (a.add i) = some c := by
  unfold World.cells? at h
  split at h
  · exact mapM_range _ n cs h
  · cases h

theorem addr_spot {W : World} {a : Addr} {c : Value} (h : W.cell? a = some c) : a.spot = none := by
  unfold World.cell? at h
  split at h
  · cases e : a.spot with
    | none => rfl
    | some s => simp [e] at h
  · cases h

section
variable {H : Type} {en : TypeId × Value → H} {P : Program} {W : World} {base : Nat} {sp : Nat → Bool} {held : Bool}

theorem row_plain {t : Ty} (Q : Nat → t.den → Prop) : ∀ n, (∀ i, i < n → ∃ x, Q i x) → ∃ xs : List t.den, xs.length = n ∧ ∀ i x, xs[i]? = some x → Q i x := by
  intro n
  induction n with
  | zero => intro _; exact ⟨[], rfl, by simp⟩
  | succ n ih =>
    intro h
    obtain ⟨xs, h1, h2⟩ := ih fun i hi => h i (by omega)
    obtain ⟨y, hy⟩ := h n (by omega)
    refine ⟨xs ++ [y], by simp [h1], ?_⟩
    intro i x hx
    rw [getElem?_snoc] at hx
    split at hx
    · exact h2 i x hx
    · split at hx
      · rename_i e; cases hx; rw [e, h1]; exact hy
      · cases hx

theorem read_sound : ∀ (fuel : Nat) (T : TypeId) (cs : List Value) (d : DataW H × List MemPlace), DataW.trod en P W base sp held fuel T cs = some d →
    ∀ (n : Nat) (t : Ty), tyFits P n T t = true → ∃ x : t.den, VRs [] (memOf W) (enc t x) cs ∧ Wf t x := by
  intro fuel
  induction fuel with
  | zero => intro T cs d h; simp [DataW.trod] at h
  | succ fuel ih =>
    intro T cs d h n t hf
    -- a struct's fields, an array's elements, one behind the other
    have flds : ∀ (n : Nat) (fs : List Field) (off : Nat) (t : Ty), fieldsFit P n fs off t = true → ∀ (xs : List (DataW H × List MemPlace)),
        fs.mapM (fun f => DataW.trod en P W base sp held fuel f.type ((cs.drop f.offset).take (P.cellsOf f.type))) = some xs → ∃ x : t.den, VRs [] (memOf W) (enc t x) ((cs.drop off).take t.size) ∧ Wf t x := by
      intro n
      induction n with
      | zero => intro fs off t hf; simp [fieldsFit] at hf
      | succ n ihn =>
        intro fs off t hf xs hx
        match fs, hf, hx with
        | [], hf, _ => simp [fieldsFit] at hf
        | [f], hf, hx =>
          simp only [fieldsFit, Bool.and_eq_true] at hf
          simp only [List.mapM_cons, List.mapM_nil, Option.bind_eq_bind, Option.bind_eq_some_iff] at hx
          obtain ⟨y, hy, _⟩ := hx
          rw [beq_true hf.1.1, beq_true hf.1.2] at hy
          exact ih _ _ _ hy n t hf.2
        | f :: f2 :: r, hf, hx =>
          cases t with
          | pair a b =>
            simp only [fieldsFit, Bool.and_eq_true] at hf
            rw [List.mapM_cons] at hx
            simp only [Option.bind_eq_bind, Option.bind_eq_some_iff] at hx
            obtain ⟨y, hy, ys, hys, _⟩ := hx
            rw [beq_true hf.1.1.1, beq_true hf.1.1.2] at hy
            obtain ⟨x1, h1, w1⟩ := ih _ _ _ hy n a hf.1.2
            obtain ⟨x2, h2, w2⟩ := ihn (f2 :: r) (off + a.size) b hf.2 ys hys
            refine ⟨(x1, x2), ?_, w1, w2⟩
            simp only [enc, Ty.size]
            rw [List.take_add, List.drop_drop]
            exact h1.append h2
          | _ => simp [fieldsFit] at hf
    have elems : ∀ (n : Nat) (e : TypeId) (m i : Nat) (t : Ty), elemsFit P n e m i t = true → (∀ j, i ≤ j → j < i + m → ∃ y, DataW.trod en P W base sp held fuel e ((cs.drop (j * P.cellsOf e)).take (P.cellsOf e)) = some y) →
        ∃ x : t.den, VRs [] (memOf W) (enc t x) ((cs.drop (i * P.cellsOf e)).take t.size) ∧ Wf t x := by
      intro n
      induction n with
      | zero => intro e m i t hf; simp [elemsFit] at hf
      | succ n ihn =>
        intro e m i t hf hx
        match m, hf, hx with
        | 0, hf, _ => simp [elemsFit] at hf
        | 1, hf, hx =>
          simp only [elemsFit, Bool.and_eq_true] at hf
          obtain ⟨y, hy⟩ := hx i (Nat.le_refl _) (by omega)
          obtain ⟨x, h1, w1⟩ := ih _ _ _ hy n t hf.2
          rw [beq_true hf.1] at h1 ⊢
          exact ⟨x, h1, w1⟩
        | m + 2, hf, hx =>
          cases t with
          | pair a b =>
            simp only [elemsFit, Bool.and_eq_true] at hf
            obtain ⟨y, hy⟩ := hx i (Nat.le_refl _) (by omega)
            obtain ⟨x1, h1, w1⟩ := ih _ _ _ hy n a hf.1.2
            obtain ⟨x2, h2, w2⟩ := ihn e (m + 1) (i + 1) b hf.2 fun j hj1 hj2 => hx j (by omega) (by omega)
            refine ⟨(x1, x2), ?_, w1, w2⟩
            simp only [enc, Ty.size]
            rw [List.take_add, List.drop_drop]
            rw [beq_true hf.1.1] at h1 h2 ⊢
            rw [Nat.succ_mul] at h2
            exact h1.append h2
          | _ => simp [elemsFit] at hf
    cases n with
    | zero => simp [tyFits] at hf
    | succ n =>
      unfold tyFits at hf
      cases hu : P.underlying T with
      | none => simp [hu] at hf
      | some u =>
        rw [hu] at hf
        have single : ∀ {R : Prop}, (∀ c, cs = [c] → R) → (cs = [] → R) → ((∃ a b r, cs = a :: b :: r) → R) → R := by
          intro R h1 h2 h3
          rcases cs with _ | ⟨c, _ | ⟨c2, r⟩⟩
          · exact h2 rfl
          · exact h1 c rfl
          · exact h3 ⟨_, _, _, rfl⟩
        have hstruct : ∀ fs, u = .struct fs → ∃ x : t.den, VRs [] (memOf W) (enc t x) cs ∧ Wf t x := by
          rintro fs rfl
          simp only [Bool.and_eq_true] at hf
          have h' := h
          simp only [DataW.trod, hu] at h'
          split at h'
          · rename_i hl
            simp only [Option.map_eq_some_iff] at h'
            obtain ⟨xs, hxs, _⟩ := h'
            obtain ⟨x, h1, h2⟩ := flds n fs.toList 0 t hf.2 xs hxs
            refine ⟨x, ?_, h2⟩
            rw [List.drop_zero, List.take_of_length_le (by rw [hl, beq_true hf.1]; exact Nat.le_refl _)] at h1
            exact h1
          · cases h'
        have harr : ∀ m e, u = .array m e → ∃ x : t.den, VRs [] (memOf W) (enc t x) cs ∧ Wf t x := by
          rintro m e rfl
          simp only [Bool.and_eq_true] at hf
          have h' := h
          simp only [DataW.trod, hu] at h'
          split at h'
          · rename_i hl
            simp only [Option.map_eq_some_iff] at h'
            obtain ⟨xs, hxs, _⟩ := h'
            obtain ⟨_, hel⟩ := mapM_range _ m xs hxs
            obtain ⟨x, h1, h2⟩ := elems n e m 0 t hf.2 fun j _ hj => by
              obtain ⟨y, _, hy⟩ := hel j (by omega)
              exact ⟨y, hy⟩
            refine ⟨x, ?_, h2⟩
            rw [Nat.zero_mul, List.drop_zero, List.take_of_length_le (by rw [hl, beq_true hf.1]; exact Nat.le_refl _)] at h1
            exact h1
          · cases h'
        cases u
        case struct fs => exact hstruct fs rfl
        case array m e => exact harr m e rfl
        all_goals cases t <;> simp only at hf <;> try (cases hf; done)
        · -- bool
          refine single ?_ ?_ ?_
          · rintro c rfl
            cases c <;> simp [DataW.trod, hu] at h
            rename_i b
            exact ⟨b, .cons (.bool b) .nil, trivial⟩
          · rintro rfl; simp [DataW.trod, hu] at h
          · rintro ⟨a, b, r, rfl⟩; simp [DataW.trod, hu] at h
        · -- int
          rename_i k k'
          have hk : k = k' := by simpa using hf
          subst hk
          refine single ?_ ?_ ?_
          · rintro c rfl
            cases c <;> simp [DataW.trod, hu] at h
            rename_i k2 m
            obtain ⟨⟨rfl, hw⟩, _⟩ := h
            refine ⟨m, .cons (.int _ m (by simpa [Lit.wf] using hw)) .nil, ?_⟩
            simpa [Lit.wf, Wf] using hw
          · rintro rfl; simp [DataW.trod, hu] at h
          · rintro ⟨a, b, r, rfl⟩; simp [DataW.trod, hu] at h
        · -- float
          rename_i k k'
          have hk : k = k' := by simpa using hf
          subst hk
          refine single ?_ ?_ ?_
          · rintro c rfl
            cases c <;> simp [DataW.trod, hu] at h
            rename_i k2 m
            obtain ⟨⟨rfl, hw⟩, _⟩ := h
            have hlt : m < 2 * signOf k2 := by
              cases k2 <;> simpa [Lit.wf, signOf] using hw
            exact ⟨canon k2 m, .cons (.float _ _ m hlt rfl) .nil, canon_lt hlt, canon_canon k2 m⟩
          · rintro rfl; simp [DataW.trod, hu] at h
          · rintro ⟨a, b, r, rfl⟩; simp [DataW.trod, hu] at h
        · -- string
          refine single ?_ ?_ ?_
          · rintro c rfl
            cases c <;> simp [DataW.trod, hu] at h
            rename_i s
            have hsz : s.data.toList.length ≤ 9223372036854775807 := by have := h.1; rw [size_eq_length] at this; exact this
            exact ⟨s.data.toList, .cons (.str s _ rfl hsz) .nil, hsz⟩
          · rintro rfl; simp [DataW.trod, hu] at h
          · rintro ⟨a, b, r, rfl⟩; simp [DataW.trod, hu] at h
        · -- slice
          rename_i e t
          simp only [Bool.and_eq_true] at hf
          have hsz := beq_true hf.1.1
          have hpos : t.size ≠ 0 := fun e => by have := hf.1.2; rw [e] at this; cases this
          refine single ?_ ?_ ?_
          · rintro c rfl
            cases c <;> try (simp [DataW.trod, hu] at h; done)
            rename_i ad len cap
            cases ad with
            | none =>
              cases len <;> cases cap <;> simp [DataW.trod, hu] at h
              exact ⟨[], .cons (.vecnil t none 0) .nil, by simp [maxLen], by simp⟩
            | some ad =>
              simp only [DataW.trod, hu] at h
              split at h
              · rename_i hc
                obtain ⟨hc1, hc2, hc3⟩ := hc
                simp only [Option.bind_eq_some_iff] at h
                obtain ⟨els, hels, _⟩ := h
                obtain ⟨hl, hel⟩ := mapM_range _ len els hels
                have each : ∀ i, i < len → ∃ x : t.den, (∃ cc : List Value, cc.length = t.size ∧ (∀ j, j < t.size → ∃ c, cc[j]? = some c ∧ W.cell? ((ad.add (i * t.size)).add j) = some c) ∧ VRs [] (memOf W) (enc t x) cc) ∧ Wf t x := by
                  intro i hi
                  obtain ⟨y, _, hy⟩ := hel i hi
                  simp only [Option.bind_eq_some_iff] at hy
                  obtain ⟨cc, hcc, hy⟩ := hy
                  obtain ⟨x, h1, h2⟩ := ih e cc y hy n t hf.2
                  obtain ⟨l1, l2⟩ := cells?_some hcc
                  rw [hsz] at l1 l2
                  exact ⟨x, ⟨cc, l1, l2, h1⟩, h2⟩
                obtain ⟨xs, hxs, hq⟩ := row_plain (t := t) _ len each
                have hwf : Wf (.slice t) xs := by
                  refine ⟨by omega, fun x hx => ?_⟩
                  obtain ⟨i, hi⟩ := List.mem_iff_getElem?.1 hx
                  exact (hq i x hi).2
                by_cases hz : len = 0
                · subst hz
                  have : xs = [] := List.length_eq_zero_iff.1 hxs
                  subst this
                  exact ⟨[], .cons (.vecnil t (some ad) cap) .nil, hwf⟩
                · refine ⟨xs, .cons ?_ .nil, hwf⟩
                  -- the elements lie in one row
                  obtain ⟨⟨cc0, _, l20, _⟩, _⟩ := hq 0 _ (List.getElem?_eq_getElem (show 0 < xs.length by omega))
                  obtain ⟨c0, _, hc0⟩ := l20 0 (by omega)
                  simp only [Nat.zero_mul, Addr.add_zero'] at hc0
                  have hspot := addr_spot hc0
                  obtain ⟨b, o, spot⟩ := ad
                  subst hspot
                  have hrow : ∃ c T fz, W.heap[b]? = some (.cells c T fz) := by
                    unfold World.cell? at hc0
                    split at hc0
                    · rename_i c T fz hh; exact ⟨c, T, fz, hh⟩
                    · cases hc0
                  obtain ⟨row, TT, fz, hrow⟩ := hrow
                  refine .vec t xs b o len cap row.toList (by simp [memOf, hrow]) ⟨hxs.symm, by have : maxLen = 9223372036854775807 := rfl; omega⟩ hc2 ?_
                  intro i x hx
                  obtain ⟨⟨cc, l1, l2, hv⟩, _⟩ := hq i x hx
                  have : (row.toList.drop (o + i * t.size)).take t.size = cc := by
                    apply List.ext_getElem?
                    intro j
                    rw [List.getElem?_take]
                    split
                    · rename_i hj
                      obtain ⟨c, hc1', hc2'⟩ := l2 j hj
                      rw [hc1', List.getElem?_drop]
                      simp only [Addr.add_lit] at hc2'
                      rw [cell?_row hrow] at hc2'
                      simpa using hc2'
                    · rename_i hj
                      rw [List.getElem?_eq_none (by omega)]
                  rw [this]
                  exact hv
              · cases h
          · rintro rfl; simp [DataW.trod, hu] at h
          · rintro ⟨a, b, r, rfl⟩; simp [DataW.trod, hu] at h

def atFits (P : Program) (T : TypeId) : AT → Bool
  | .cell t => tyFits P 60 T t && Nat.beq t.size 1 && (match P.underlying T with | some (.struct _) => false | some (.array _ _) => false | _ => true)
  | .agg t => tyFits P 60 T t && (match P.underlying T with | some (.struct _) => true | some (.array _ _) => true | _ => false)
  | .fn _ => false
  | .ref _ => false
  | .clo _ _ => false
  | .refp _ => false
  | .nothing => false

theorem arg_sound {r : Reach} {T : TypeId} {v : Value} {d : DataW H} {ps : List MemPlace} (hok : Value.okWide P W r base T v) (h : DataW.Trod en P W 0 sp held T v d ps) (a : AT) (hf : atFits P T a = true) :
    ∃ x : a.den, VR [] (memOf W) (encA a x) v ∧ WfA a x := by
  obtain ⟨fuel, h⟩ := h
  cases a with
  | fn f => simp [atFits] at hf
  | ref t => simp [atFits] at hf
  | clo f t => simp [atFits] at hf
  | refp t => simp [atFits] at hf
  | nothing => simp [atFits] at hf
  | agg t =>
    simp only [atFits, Bool.and_eq_true] at hf
    obtain ⟨x, h1, h2⟩ := read_sound fuel T _ _ h 60 t hf.1
    refine ⟨x, ?_, h2⟩
    have : ∃ cs, v = .agg cs := by
      unfold Value.okWide at hok
      cases hu : P.underlying T with
      | none => rw [hu] at hf; exact absurd hf.2 (by simp)
      | some u =>
        rw [hu] at hf hok
        cases u <;> simp only at hf hok <;> try (cases hf.2; done)
        · obtain ⟨cs, e, _⟩ := hok; exact ⟨cs, e⟩
        · obtain ⟨cs, e, _⟩ := hok; exact ⟨cs, e⟩
    obtain ⟨cs, rfl⟩ := this
    exact .agg _ cs h1
  | cell t =>
    simp only [atFits, Bool.and_eq_true] at hf
    obtain ⟨x, h1, h2⟩ := read_sound fuel T _ _ h 60 t hf.1.1
    refine ⟨x, ?_, h2⟩
    have hs := beq_true hf.1.2
    have hl := h1.length
    rw [enc_length, hs] at hl
    have hv : v.cells = #[v] := by
      cases v with
      | agg cs =>
        exfalso
        unfold Value.okWide at hok
        have ht := hf.1.1
        unfold tyFits at ht
        cases hu : P.underlying T with
        | none => rw [hu] at ht; simp at ht
        | some u =>
          rw [hu] at ht hok hf
          cases u <;> cases t <;> simp only at ht hok hf <;> first | (cases ht; done) | (cases hf.2; done) | (simp [Cell.okWide, Cell.ok, hu] at hok; done)
      | _ => rfl
    rw [hv] at h1
    simp only [encA]
    cases e : enc t x with
    | nil => have := enc_length t x; rw [e, hs] at this; simp at this
    | cons u us =>
      rw [e] at h1
      cases h1 with
      | cons p q => exact p

theorem gamOk_none {P : Program} (h1 : P.globalNamed "internal/strconv.uint64pow10" = none) (h2 : usesIndex P = false) (M : Mem) : GamOk P M := by
  refine ⟨fun k hk => ?_, fun k hu hk => ?_⟩
  · rw [h1] at hk; cases hk
  · rw [h2] at hu; cases hu

theorem law_calls {k : FuncId} {fn : Func} {S : Sm} (hS : FnOk P k S) (hf : P.funcs[k]? = some fn) (hb : fn.body.isSome = true) (hn : (fn.name == "runtime.NumGoroutine") = false) {args : List V} {cargs : List Value}
    (h : S args [] (fun v hs => v = .bool true)) (hv : VRs [] (memOf W) args cargs) (hG : GamOk P (memOf W)) : Calls P k cargs.toArray W fun e W' => e = .returned (.bool true) ∧ Below W.heap.size W W' := by
  obtain ⟨v, rfl, _, h3⟩ := hS args _ h
  rcases h3 W (memOf W) cargs hv (memOf_ok W) hG with ⟨u, w', h1, _⟩ | ⟨_, h2⟩
  · exfalso
    have hn' : ¬ fn.name = "runtime.NumGoroutine" := by simpa using hn
    have hb' : ¬ fn.body = none := by intro e; rw [e] at hb; cases hb
    simp [callFunc, hf, hn', hb'] at h1
  · refine h2.mono ?_
    rintro e w' ⟨u, rfl, M', k1, k2, k3⟩
    cases k1
    exact ⟨rfl, ⟨k3.os, k3.tape, k3.output, k3.size, k3.keep⟩⟩
end
end Go.Ev

/- Functions that Go's library leaves without a body. -/
set_option linter.unusedVariables false
set_option linter.unusedSimpArgs false
namespace Go.Ev

theorem fnOk_ext {P : Program} {k : FuncId} {fn : Func} {e : Array Value → Sem Value} {S : Sm} (hf : P.funcs[k]? = some fn) (hname : (fn.name == "runtime.NumGoroutine") = false)
    (hb : fn.body.isNone = true) (hn : Extern.findNext fn = none) (he : Extern.find fn = some e)
    (h : ∀ args K, S args [] K → ∃ v, K v [] ∧ (∀ K' : V → Heap → Prop, K' v [] → S args [] K') ∧
      ∀ (w : World) (M : Mem) (cargs : List Value), VRs [] M args cargs → ∃ val w', (e cargs.toArray).run P w = .ok val w' ∧ Drawn w w' ∧ VR [] M v val) : FnOk P k S := by
  intro args K hk
  obtain ⟨v, h1, h2, h3⟩ := h args K hk
  refine ⟨v, h1, h2, fun w M cargs hv hm hG => ?_⟩
  obtain ⟨val, w', k1, k2, k3⟩ := h3 w M cargs hv
  refine .inl ⟨val, w', ?_, M, k3, ?_, ?_⟩
  · rw [run_callFunc_extern hf hname hb hn he, k1]; rfl
  · intro b cs hb'
    obtain ⟨c, T, fz, p1, p2⟩ := hm b cs hb'
    exact ⟨c, T, fz, by rw [k2.heap]; exact p1, p2⟩
  · exact ⟨by rw [k2.heap]; exact Nat.le_refl _, fun b _ => by rw [k2.heap], fun _ _ h => h, fun _ _ h => .inl h, k2.os, k2.tape, k2.output⟩

def sF32from : Sm := fun args hs K =>
  match args with
  | [.int .u32 n] => K (.float .f32 (canon .f32 n.toNat)) hs
  | [.nanb] => K (.float .f32 (qnan .f32)) hs
  | _ => False

theorem ok_F32from {P : Program} {k : FuncId} {fn : Func} (hf : P.funcs[k]? = some fn) (hname : (fn.name == "runtime.NumGoroutine") = false)
    (hb : fn.body.isNone = true) (hn : Extern.findNext fn = none) (he : Extern.find fn = some Extern.MathFloatBits.float32frombits) : FnOk P k sF32from := by
  refine fnOk_ext hf hname hb hn he ?_
  intro args K h
  unfold sF32from at h
  split at h
  · rename_i n
    refine ⟨_, h, fun K' h' => h', ?_⟩
    intro w M cargs hv
    cases hv with
    | cons a b =>
      cases b
      cases a with
      | int _ _ hr =>
        have e1 : IntKind.u32.min = 0 := rfl
        have e2 : IntKind.u32.max = 4294967295 := rfl
        have e3 : 2 * signOf .f32 = 4294967296 := rfl
        exact ⟨_, w, rfl, Drawn.refl w, .float _ _ n.toNat (by omega) rfl⟩
  · refine ⟨_, h, fun K' h' => h', ?_⟩
    intro w M cargs hv
    cases hv with
    | cons a b =>
      cases b
      cases a with
      | nanb n hr hn =>
        have e3 : 2 * signOf .f32 = 4294967296 := rfl
        exact ⟨_, w, rfl, Drawn.refl w, .float _ _ n.toNat (by omega) (canon_nan hn).symm⟩
  · exact h.elim

def sSqrt : Sm := fun args hs K =>
  match args with
  | [.float .f64 x] => K (.float .f64 (fsqrt .f64 x)) hs
  | _ => False

theorem ok_sqrt {P : Program} {k : FuncId} {fn : Func} (hf : P.funcs[k]? = some fn) (hname : (fn.name == "runtime.NumGoroutine") = false)
    (hb : fn.body.isNone = true) (hn : Extern.findNext fn = none) (he : Extern.find fn = some Extern.MathSqrt.sqrt) : FnOk P k sSqrt := by
  refine fnOk_ext hf hname hb hn he ?_
  intro args K h
  unfold sSqrt at h
  split at h
  · rename_i x
    refine ⟨_, h, fun K' h' => h', ?_⟩
    intro w M cargs hv
    cases hv with
    | cons a b =>
      cases b
      cases a with
      | float _ _ b' h1 h2 =>
        obtain ⟨r, w', k1, k2, k3, k4⟩ := floatRes (P := P) (w := w) .f64 b' b' (FloatKind.f64.format.sqrt b') (fun r hr => ⟨nan_sqrt hr, by rw [← width_eq]; exact FloatKind.f64.format.sqrt_lt hr⟩)
        refine ⟨_, w', ?_, k2, .float _ _ r k4 ?_⟩
        · exact k1
        · rw [h2, fsqrt, sqrt_canon]; exact k3.symm
  · exact h.elim

end Go.Ev

/- Loops by measure: one round at a time. -/
set_option linter.unusedVariables false
set_option linter.unusedSimpArgs false
namespace Go.Ev

def kSeq (C : Ctx) (b : Code) (K : Ex → Fr → Heap → Prop) : Ex → Fr → Heap → Prop := fun e fr H =>
  match e with
  | .normal => wpE C b fr H K
  | .ret => K .ret fr H
  | .exit id => K (.exit id) fr H
def kBlock (id : Nat) (K : Ex → Fr → Heap → Prop) : Ex → Fr → Heap → Prop := fun e fr H =>
  match e with
  | .normal => K .normal fr H
  | .ret => K .ret fr H
  | .exit id' => bif Nat.beq id' id then K .normal fr H else K (.exit id') fr H
def kFn (C : Ctx) (fn : Func) (hs : Heap) (K : V → Heap → Prop) : Ex → Fr → Heap → Prop := fun e fr H =>
  match e with
  | .exit _ => False
  | _ => bif Nat.ble hs.length H.length then
      resV C fr H fn.results.toList fun vs => outV hs.length H vs K
    else False

def kFnG (ps : List (List (Option Ty))) (C : Ctx) (fn : Func) (hs : Heap) (K : V → Heap → Prop) : Ex → Fr → Heap → Prop := fun e fr H =>
  match e with
  | .exit _ => False
  | _ => bif Nat.ble hs.length H.length then resV C fr H fn.results.toList fun vs => outG ps hs.length H vs K else False

def findLoop (C : Ctx) (n : Nat) : Code → (Ex → Fr → Heap → Prop) → Option (Code × (Ex → Fr → Heap → Prop))
  | .seq a b, K => match findLoop C n a (kSeq C b K) with
    | some r => some r
    | none => findLoop C n b K
  | .block id b, K => findLoop C n b (kBlock id K)
  | .loop b, K => bif Nat.beq (firstRegion b) n then some (b, K) else none
  | .cond c a b, K => match findLoop C n a K with
    | some r => some r
    | none => findLoop C n b K
  | _, _ => none

def lbC (C : Ctx) (n : Nat) (c : Code) : Code := ((findLoop C n c fun _ _ _ => True).getD (.skip, fun _ _ _ => True)).1
def lkC (C : Ctx) (n : Nat) (c : Code) (K : Ex → Fr → Heap → Prop) : Ex → Fr → Heap → Prop := ((findLoop C n c K).getD (.skip, K)).2
def bodyOf (fn : Func) : Code := fn.body.getD .skip
def lb (C : Ctx) (n : Nat) (fn : Func) : Code := lbC C n (bodyOf fn)
def lk (C : Ctx) (n : Nat) (fn : Func) (hs : Heap) (K : V → Heap → Prop) : Ex → Fr → Heap → Prop := lkC C n (bodyOf fn) (kFn C fn hs K)

def lkG (ps : List (List (Option Ty))) (C : Ctx) (n : Nat) (fn : Func) (hs : Heap) (K : V → Heap → Prop) : Ex → Fr → Heap → Prop := lkC C n (bodyOf fn) (kFnG ps C fn hs K)

def kRound (a : Ann) (Kn : Fr → Heap → Prop) (K : Ex → Fr → Heap → Prop) : Ex → Fr → Heap → Prop := fun e fr' H' =>
  match e with
  | .normal => Kn (normFr a fr' H') (normH a fr' H')
  | .ret => K .ret fr' H'
  | .exit id => K (.exit id) fr' H'
def round (C : Ctx) (a : Ann) (body : Code) (fr : Fr) (H : Heap) (Kn : Fr → Heap → Prop) (K : Ex → Fr → Heap → Prop) : Prop :=
  wpE C body fr H (kRound a Kn K)

def pathB (C : Ctx) : List Nat → Code → Code
  | [], c => c
  | n :: r, c => pathB C r (lbC C n c)
def pathK (C : Ctx) : List (Nat × Ann × (Fr → Heap → Prop)) → Nat → Code → (Ex → Fr → Heap → Prop) → Ex → Fr → Heap → Prop
  | [], n, c, K => lkC C n c K
  | p :: r, n, c, K => pathK C r n (lbC C p.1 c) (kRound p.2.1 p.2.2 (lkC C p.1 c K))

def LoopE (C : Ctx) (a : Ann) (body : Code) (fr : Fr) (H : Heap) (K : Ex → Fr → Heap → Prop) : Prop := ∃ n, loopN (wpE C body) (some a) n fr H K

theorem loop_run {C : Ctx} {a : Ann} {body : Code} {K : Ex → Fr → Heap → Prop} {σ : Type} (fr : σ → Fr) (H : σ → Heap) (I : σ → Prop) (μ : σ → Nat)
    (h : ∀ s, I s → ∀ Kn : Fr → Heap → Prop, (∀ s', I s' → μ s' < μ s → Kn (fr s') (H s')) → round C a body (fr s) (H s) Kn K) (s : σ) (hs : I s) : LoopE C a body (fr s) (H s) K := by
  have key : ∀ n s, I s → μ s < n → loopN (wpE C body) (some a) n (fr s) (H s) K := by
    intro n
    induction n with
    | zero => intro s _ hn; omega
    | succ n ih =>
      intro s hi hn
      exact h s hi (fun fr' H' => loopN (wpE C body) (some a) n fr' H' K) fun s' hi' hm => ih s' hi' (by omega)
  exact ⟨μ s + 1, key _ s hs (Nat.lt_succ_self _)⟩

end Go.Ev

/- Results that a call hands over to its caller. -/
set_option linter.unusedVariables false
set_option linter.unusedSimpArgs false
namespace Go.Ev

section
variable {g : List G} {M : Mem} {w w0 : World} {M0 : Mem} {own0 : Z} {H : Heap}
theorem snoc_cases {H : Heap} {g : List G} (hlen : H.length = g.length) {o0 o : Ob} {x0 x : G} {j : Nat} (h1 : (H ++ [o0])[j]? = some o) (h2 : (g ++ [x0])[j]? = some x) :
    (j < H.length ∧ H[j]? = some o ∧ g[j]? = some x) ∨ (j = H.length ∧ o = o0 ∧ x = x0) := by
  rw [getElem?_snoc] at h1 h2
  rw [← hlen] at h2
  split at h1
  · rename_i hl; rw [if_pos hl] at h2; exact .inl ⟨hl, h1, h2⟩
  · rename_i hl
    rw [if_neg hl] at h2
    split at h1
    · rename_i he; rw [if_pos he] at h2; cases h1; cases h2; exact .inr ⟨he, rfl, rfl⟩
    · cases h1
theorem push_nil (hr : HR H g M w) (hb : Base w0 M0 own0 H g M w) {e : Ty} (he : 0 < e.size) :
    HR (H ++ [.sl 0 e []]) (g ++ [.sl (.slice none 0 0) 0 e.size]) M w ∧ Base w0 M0 own0 (H ++ [.sl 0 e []]) (g ++ [.sl (.slice none 0 0) 0 e.size]) M w := by
  have hE := Ext.snoc g M (.sl (.slice none 0 0) 0 e.size)
  refine ⟨⟨by simp [hr.len], ?_, ?_, hr.mem⟩, ⟨hb.size, hb.keep, ?_, hb.mle, hb.mnew, hb.os, hb.tape, hb.output, fun j b hj => ?_⟩⟩
  · intro j o z p1 p2
    rcases snoc_cases hr.len p1 p2 with ⟨_, q1, q2⟩ | ⟨_, rfl, rfl⟩
    · exact (hr.ob j o z q1 q2).mono hE fun _ _ => rfl
    · simp only [ObOk]
      exact ⟨trivial, trivial, ⟨he, by simp⟩, .inl ⟨trivial, trivial⟩⟩
  · intro j j' o o' z z' b p1 p2 p3 p4 p5 p6
    rcases snoc_cases hr.len p1 p2 with ⟨_, q1, q2⟩ | ⟨_, rfl, rfl⟩
    · rcases snoc_cases hr.len p3 p4 with ⟨_, q3, q4⟩ | ⟨_, rfl, rfl⟩
      · exact hr.apart j j' o o' z z' b q1 q2 q3 q4 p5 p6
      · simp [ownB] at p6
    · simp [ownB] at p5
  · rintro b ⟨j, o, z, p1, p2, p3⟩
    rcases snoc_cases hr.len p1 p2 with ⟨_, q1, q2⟩ | ⟨_, rfl, rfl⟩
    · exact hb.own b ⟨j, o, z, q1, q2, p3⟩
    · simp [ownB] at p3
  · have := hb.gbox j b hj
    rw [List.getElem?_append_left (lt_of_get this)]; exact this

theorem push_niD (hr : HR H g M w) (hb : Base w0 M0 own0 H g M w) {e : Ty} (he : 0 < e.size) :
    HR (H ++ [.dp 0 0 e []]) (g ++ [.dp (.slice none 0 0) 0 0 e.size [] (fun _ => Go.undef)]) M w ∧ Base w0 M0 own0 (H ++ [.dp 0 0 e []]) (g ++ [.dp (.slice none 0 0) 0 0 e.size [] (fun _ => Go.undef)]) M w := by
  have hfinal := adopt_push (L := []) (w' := w) (o' := .dp 0 0 e []) (x' := .dp (.slice none 0 0) 0 0 e.size [] (fun _ => Go.undef)) hr hb (Nat.le_refl _) rfl rfl rfl (fun _ _ _ => rfl) (by
    simp only [ObOk]
    refine ⟨⟨trivial, trivial, trivial⟩, ⟨_, rfl, Nat.zero_le _, he, .inl ⟨rfl, rfl, rfl⟩⟩, .nil, by simp, ?_⟩
    intro b n cap c T fz e'
    cases e') (fun b hb' => by cases hb')
  exact ⟨hfinal.1, hfinal.2.1⟩

theorem give1_sound {H' : Heap} {p : Option Ty} (hr : HR H g M w) (hb : Base w0 M0 own0 H g M w) {v v' : V} {c : Value} (hv : VR g M v c) (h : give1 p H v = some (H', v')) :
    ∃ g' M', HR H' g' M' w ∧ Base w0 M0 own0 H' g' M' w ∧ Ext g M g' M' ∧ (∀ (id : Nat) (x : G), g[id]? = some x → g'[id]? = some x) ∧ VR g' M' v' c := by
  unfold give1 at h
  split at h
  · obtain ⟨M', h1, h2, h3, h4⟩ := freeze1_sound hr hb hv h
    exact ⟨g, M', h1, h2, Ext.mem h3, fun _ _ h => h, h4⟩
  · rename_i e0
    generalize wantE e0 = q at h
    obtain ⟨e, fl⟩ := q
    simp only at h
    split at h
    · cases hs : Nat.blt 0 e.size with
      | false => rw [hs] at h; cases h
      | true =>
        rw [hs] at h
        cases fl with
        | true =>
          simp only [cond_true, cond_false] at h
          cases h
          cases hv
          obtain ⟨h1, h2⟩ := push_nil hr hb (by rw [Nat.blt_eq] at hs; exact hs)
          refine ⟨_, M, h1, h2, Ext.snoc _ _ _, fun id x hx => by rw [List.getElem?_append_left (lt_of_get hx)]; exact hx, ?_⟩
          exact .obj _ 0 0 e.size (.slice none 0 0) _ (by rw [hr.len, List.getElem?_append_right (Nat.le_refl _)]; simp) (Nat.le_refl _) (fun _ => rfl) rfl
        | false =>
          simp only [cond_true, cond_false] at h
          cases h
          cases hv
          obtain ⟨h1, h2⟩ := push_niD hr hb (by rw [Nat.blt_eq] at hs; exact hs)
          refine ⟨_, M, h1, h2, Ext.snoc _ _ _, fun id x hx => by rw [List.getElem?_append_left (lt_of_get hx)]; exact hx, ?_⟩
          exact .dob _ 0 0 0 e.size [] _ (.slice none 0 0) _ (by rw [hr.len, List.getElem?_append_right (Nat.le_refl _), Nat.sub_self]; rfl) (Nat.le_refl _) (fun _ => rfl) rfl
    · cases h
      exact ⟨g, M, hr, hb, Ext.refl _ _, fun _ _ h => h, hv⟩

theorem gives1_sound : ∀ {ps : List (Option Ty)} {g : List G} {M : Mem} {H H' : Heap} (_ : HR H g M w) (_ : Base w0 M0 own0 H g M w) {vs vs' : List V} {cs : List Value} (_ : VRs g M vs cs) (_ : gives1 ps H vs = some (H', vs')),
    ∃ g' M', HR H' g' M' w ∧ Base w0 M0 own0 H' g' M' w ∧ Ext g M g' M' ∧ (∀ (id : Nat) (x : G), g[id]? = some x → g'[id]? = some x) ∧ VRs g' M' vs' cs
  | [], g, M, H, H', hr, hb, [], _, _, .nil, h => by simp only [gives1] at h; cases h; exact ⟨g, M, hr, hb, Ext.refl _ _, fun _ _ h => h, .nil⟩
  | [], _, _, _, _, _, _, _ :: _, _, _, _, h => by simp only [gives1] at h; cases h
  | _ :: _, _, _, _, _, _, _, [], _, _, _, h => by simp only [gives1] at h; cases h
  | p :: ps, g, M, H, H', hr, hb, v :: vs, _, _, .cons hv hs, h => by
    simp only [gives1] at h
    split at h
    · rename_i H1 v1 e1
      split at h
      · rename_i H2 vs2 e2
        cases h
        obtain ⟨g1, M1, p1, p2, p3, p4, p5⟩ := give1_sound hr hb hv e1
        obtain ⟨g2, M2, q1, q2, q3, q4, q5⟩ := gives1_sound p1 p2 (hs.mono p3) e2
        exact ⟨g2, M2, q1, q2, p3.trans q3, fun id x hx => q4 _ _ (p4 _ _ hx), .cons (p5.mono q3) q5⟩
      · cases h
    · cases h

theorem give2_sound {ps : List (Option Ty)} {H' : Heap} (hr : HR H g M w) (hb : Base w0 M0 own0 H g M w) {v v' : V} {c : Value} (hv : VR g M v c) (h : give2 ps H v = some (H', v')) :
    ∃ g' M', HR H' g' M' w ∧ Base w0 M0 own0 H' g' M' w ∧ Ext g M g' M' ∧ (∀ (id : Nat) (x : G), g[id]? = some x → g'[id]? = some x) ∧ VR g' M' v' c := by
  have one' : ∀ {u : V}, VR g M u c → giveO ps H u = some (H', v') → ∃ g' M', HR H' g' M' w ∧ Base w0 M0 own0 H' g' M' w ∧ Ext g M g' M' ∧ (∀ (id : Nat) (x : G), g[id]? = some x → g'[id]? = some x) ∧ VR g' M' v' c := by
    intro u hu h
    unfold giveO at h
    split at h
    · exact give1_sound hr hb hu h
    · cases h
  cases v <;> simp only [give2] at h <;> try exact one' hv h
  split at h
  · rename_i H1 vs1 e1
    cases h
    cases hv with
    | agg _ cs hvs =>
      obtain ⟨g', M', p1, p2, p3, p4, p5⟩ := gives1_sound hr hb hvs e1
      exact ⟨g', M', p1, p2, p3, p4, .agg _ cs p5⟩
  · cases h

theorem gives2_sound : ∀ {ps : List (List (Option Ty))} {g : List G} {M : Mem} {H H' : Heap} (_ : HR H g M w) (_ : Base w0 M0 own0 H g M w) {vs vs' : List V} {cs : List Value} (_ : VRs g M vs cs) (_ : gives2 ps H vs = some (H', vs')),
    ∃ g' M', HR H' g' M' w ∧ Base w0 M0 own0 H' g' M' w ∧ Ext g M g' M' ∧ (∀ (id : Nat) (x : G), g[id]? = some x → g'[id]? = some x) ∧ VRs g' M' vs' cs
  | [], g, M, H, H', hr, hb, [], _, _, .nil, h => by simp only [gives2] at h; cases h; exact ⟨g, M, hr, hb, Ext.refl _ _, fun _ _ h => h, .nil⟩
  | [], _, _, _, _, _, _, _ :: _, _, _, _, h => by simp only [gives2] at h; cases h
  | _ :: _, _, _, _, _, _, _, [], _, _, _, h => by simp only [gives2] at h; cases h
  | p :: ps, g, M, H, H', hr, hb, v :: vs, _, _, .cons hv hs, h => by
    simp only [gives2] at h
    split at h
    · rename_i H1 v1 e1
      split at h
      · rename_i H2 vs2 e2
        cases h
        obtain ⟨g1, M1, p1, p2, p3, p4, p5⟩ := give2_sound hr hb hv e1
        obtain ⟨g2, M2, q1, q2, q3, q4, q5⟩ := gives2_sound p1 p2 (hs.mono p3) e2
        exact ⟨g2, M2, q1, q2, p3.trans q3, fun id x hx => q4 _ _ (p4 _ _ hx), .cons (p5.mono q3) q5⟩
      · cases h
    · cases h

theorem addVs_ok {keep n : Nat} : ∀ (vs : List V) {L : List Nat}, KOk keep n L → KOk keep n (addVs n L vs)
  | [], _, h => h
  | v :: r, L, h => by
    unfold addVs
    split
    · rename_i e; cases e
    · rename_i us r' e; cases e; exact addVs_ok _ (foldl_addV_ok us h)
    · rename_i e; cases e; exact addVs_ok _ (addV_ok h _)
theorem leftL_ok (m : Nat) (H : Heap) (vs : List V) : KOk m H.length (leftL m H vs) := addVs_ok vs (idsOf_ok H m)

theorem scrubA_sound (hr : HR H g M w) (L : List Nat) {v : V} {c : Value} (hv : VR g M v c) : VR (gNorm L g) M (scrubA H L v) c := by
  cases v <;> simp only [scrubA] <;> try exact scrub_sound hr L hv
  cases hv with
  | agg _ cs hvs => exact .agg _ cs (VRs_scrub hr L hvs)
theorem scrubAs_sound (hr : HR H g M w) (L : List Nat) : ∀ {vs : List V} {cs : List Value}, VRs g M vs cs → VRs (gNorm L g) M (vs.map (scrubA H L)) cs
  | _, _, .nil => .nil
  | _, _, .cons h t => .cons (scrubA_sound hr L h) (scrubAs_sound hr L t)
end

section
variable {P : Program} {C : Ctx}
theorem outG_ang (ps : List (List (Option Ty))) (m : Nat) (H : Heap) (vs : List V) {K : V → Heap → Prop} (h : outG ps m H vs K) : ∃ v H', K v H' ∧ ∀ K' : V → Heap → Prop, K' v H' → outG ps m H vs K' := by
  unfold outG at h ⊢
  split at h
  · exact ⟨_, _, h, fun _ h => h⟩
  · exact h.elim

theorem wpFnG_ang (hc : CallAng C) (hd : CallAng C.drawn) (ps : List (List (Option Ty))) (fn : Func) (args : List V) (hs : Heap) {K : V → Heap → Prop} (h : wpFnG ps C fn args hs K) : ∃ v H', K v H' ∧ ∀ K' : V → Heap → Prop, K' v H' → wpFnG ps C fn args hs K' := by
  unfold wpFnG at h
  cases hb : fn.body with
  | none => simp only [hb] at h
  | some body =>
    simp only [hb] at h
    cases hq : (Nat.ble args.length fn.ntmps && Nat.beq fn.ntmps C.ntmps && Nat.beq hs.length C.base && hs.all isBox) with
    | false => simp only [hq, cond_false] at h
    | true =>
      simp only [hq, cond_true] at h
      obtain ⟨e, fr, H, h1, h2⟩ := wpE_ang hc hd body _ _ _ h
      have fin : ∀ (F : (V → Heap → Prop) → Prop), F K → (F = fun K => bif Nat.ble hs.length H.length then resV C fr H fn.results.toList fun vs => outG ps hs.length H vs K else False) → ∃ v H', K v H' ∧ ∀ K' : V → Heap → Prop, K' v H' → F K' := by
        rintro F hF rfl
        cases hle : Nat.ble hs.length H.length with
        | false => simp only [hle, cond_false] at hF
        | true =>
          simp only [hle, cond_true] at hF ⊢
          obtain ⟨vs, h3, h4⟩ := resV_ang fr H _ _ hF
          obtain ⟨v, H', h5, h6⟩ := outG_ang ps _ H vs h3
          exact ⟨v, H', h5, fun K' h' => h4 _ (h6 K' h')⟩
      cases e with
      | exit id => exact h1.elim
      | normal =>
        obtain ⟨v, H', h5, h6⟩ := fin _ h1 rfl
        refine ⟨v, H', h5, fun K' h' => ?_⟩
        unfold wpFnG
        simp only [hb, hq, cond_true]
        exact h2 _ (h6 K' h')
      | ret =>
        obtain ⟨v, H', h5, h6⟩ := fin _ h1 rfl
        refine ⟨v, H', h5, fun K' h' => ?_⟩
        unfold wpFnG
        simp only [hb, hq, cond_true]
        exact h2 _ (h6 K' h')

theorem fnOkO_of_wpFnG (L : LOk P C) (hc : CallsOk0 P C) (hm : P.follows .mixedOrders = true) (ps : List (List (Option Ty))) {k : FuncId} {fn : Func} (hf : P.funcs[k]? = some fn) (hn : (fn.name == "runtime.NumGoroutine") = false) : FnOkO P k (wpFnG ps C fn) := by
  intro args hs K h
  obtain ⟨v, H1, h1, h2⟩ := wpFnG_ang hc.ang hc.drawn.ang ps fn args hs h
  refine ⟨v, H1, h1, h2, ?_⟩
  intro w g0 M cargs ha hr0 hG
  have hw := h2 (fun u hs => u = v ∧ hs = H1) ⟨rfl, rfl⟩
  unfold wpFnG at hw
  cases hb : fn.body with
  | none => simp only [hb] at hw
  | some body =>
    simp only [hb] at hw
    cases hq : (Nat.ble args.length fn.ntmps && Nat.beq fn.ntmps C.ntmps && Nat.beq hs.length C.base && hs.all isBox) with
    | false => simp only [hq, cond_false] at hw
    | true =>
      simp only [hq, cond_true] at hw
      refine (body_sound L hc hm hf hn hb hq (Kf := fun vs H => outG ps hs.length H vs fun u hs => u = v ∧ hs = H1) hw ha hr0 hG).mono ?_
      rintro val w' ⟨vs, vals, H', g, M', p1, p2, rfl, hle, hr, hbase, hgs, hfix⟩
      unfold outG at p1
      split at p1
      · rename_i H2 vs2 e2
        obtain ⟨rfl, rfl⟩ := p1
        obtain ⟨g2, M2, q1, q2, q3, q4, q5⟩ := gives2_sound hr hbase p2 e2
        have hk := leftL_ok hs.length H2 vs2
        obtain ⟨r1, r2⟩ := norm_hr hk (own0 := Z.of hs g0) (Nat.le_of_eq hr0.len.symm) q1 q2
        refine ⟨_, M2, tup_sound (scrubAs_sound q1 _ q5), r1, ⟨fun id x hx => ⟨x, r2.gbox id x ⟨hx, hfix id x hx⟩, Gle.refl x⟩, r2.mle⟩, r2⟩
      · exact p1.elim
end
end Go.Ev

/- Calls that act on some of the caller's things, and calls that hand over new ones. -/
set_option linter.unusedVariables false
set_option linter.unusedSimpArgs false
namespace Go.Ev

theorem glue {H H' : Heap} {g g' : List G} {M Mn : Mem} {w w' : World} {L : Nat → Prop} (hr : HR H g M w)
    (hM : MemOk Mn w') (hle : ∀ b cs, M b = some cs → Mn b = some cs)
    (hnew : ∀ b cs, Mn b = some cs → M b = some cs ∨ (∃ (id : Nat) (o : Ob) (x : G), L id ∧ H[id]? = some o ∧ g[id]? = some x ∧ ownB o x b) ∨ w.heap.size ≤ b)
    (hkeep : ∀ b, b < w.heap.size → ¬ (∃ (id : Nat) (o : Ob) (x : G), L id ∧ H[id]? = some o ∧ g[id]? = some x ∧ ownB o x b) → w'.heap[b]? = w.heap[b]?)
    (hsz : w.heap.size ≤ w'.heap.size) (hos : w'.os = w.os) (htp : w'.tape = w.tape) (hout : w'.output = w.output)
    (hlen : H'.length = g'.length) (hg : ∀ (id : Nat) (x : G), g[id]? = some x → g'[id]? = some x)
    (keys : ∀ (id : Nat) (o : Ob) (x : G), H'[id]? = some o → g'[id]? = some x → (¬ L id ∧ H[id]? = some o ∧ g[id]? = some x) ∨
      (ObOk g' Mn w' o x ∧ (∀ b, ownB o x b → (∃ (id : Nat) (o : Ob) (x : G), L id ∧ H[id]? = some o ∧ g[id]? = some x ∧ ownB o x b) ∨ w.heap.size ≤ b) ∧
        ∀ (id' : Nat) (o' : Ob) (x' : G) (b : Nat), H'[id']? = some o' → g'[id']? = some x' → ownB o x b → ownB o' x' b → id = id' ∨ (¬ L id' ∧ H[id']? = some o' ∧ g[id']? = some x'))) :
    HR H' g' Mn w' ∧ Ext g M g' Mn ∧ Base w M (Z.of H g) H' g' Mn w' := by
  have E : Ext g M g' Mn := ⟨fun id x hx => ⟨x, hg id x hx, Gle.refl x⟩, hle⟩
  have hold : ∀ (id : Nat) (o : Ob) (x : G) (b : Nat), ¬ L id → H[id]? = some o → g[id]? = some x → ownB o x b → b < w.heap.size ∧ w'.heap[b]? = w.heap[b]? ∧ Mn b = none ∧
      ¬ (∃ (id : Nat) (o : Ob) (x : G), L id ∧ H[id]? = some o ∧ g[id]? = some x ∧ ownB o x b) := by
    intro id o x b hL p1 p2 p3
    have hlt := Ev.own_lt (hr.ob id o x p1 p2) p3
    have hno : ¬ (∃ (id : Nat) (o : Ob) (x : G), L id ∧ H[id]? = some o ∧ g[id]? = some x ∧ ownB o x b) := by
      rintro ⟨id', o', x', q0, q1, q2, q3⟩
      have := hr.apart id id' o o' x x' b p1 p2 q1 q2 p3 q3
      subst this
      exact hL q0
    refine ⟨hlt.1, hkeep b hlt.1 hno, ?_, hno⟩
    cases e : Mn b with
    | none => rfl
    | some cs =>
      rcases hnew b cs e with k | k | k
      · rw [hlt.2] at k; cases k
      · exact absurd k hno
      · omega
  refine ⟨⟨hlen, ?_, ?_, hM⟩, E, ⟨hsz, ?_, ?_, hle, ?_, hos, htp, hout, fun id x hx => hg id x hx.1⟩⟩
  · intro id o x h1 h2
    rcases keys id o x h1 h2 with ⟨hL, q1, q2⟩ | ⟨q1, _, _⟩
    · exact (hr.ob id o x q1 q2).frame E fun b hb => ⟨(hold id o x b hL q1 q2 hb).2.1, (hold id o x b hL q1 q2 hb).2.2.1⟩
    · exact q1
  · intro id id' o o' x x' b h1 h2 h3 h4 h5 h6
    rcases keys id o x h1 h2 with ⟨hL, q1, q2⟩ | ⟨_, q2, q3⟩
    · rcases keys id' o' x' h3 h4 with ⟨hL', q1', q2'⟩ | ⟨_, q2', q3'⟩
      · exact hr.apart id id' o o' x x' b q1 q2 q1' q2' h5 h6
      · have := hold id o x b hL q1 q2 h5
        rcases q2' b h6 with k | k
        · exact absurd k this.2.2.2
        · omega
    · rcases q3 id' o' x' b h3 h4 h5 h6 with k | ⟨hL', q1', q2'⟩
      · exact k
      · have := hold id' o' x' b hL' q1' q2' h6
        rcases q2 b h5 with k | k
        · exact absurd k this.2.2.2
        · omega
  · intro b hb hn
    exact hkeep b hb fun ⟨id, o, x, _, q1, q2, q3⟩ => hn ⟨id, o, x, q1, q2, q3⟩
  · rintro b ⟨id, o, x, h1, h2, h3⟩
    rcases keys id o x h1 h2 with ⟨_, q1, q2⟩ | ⟨_, q2, _⟩
    · exact .inl ⟨id, o, x, q1, q2, h3⟩
    · rcases q2 b h3 with ⟨id, o, x, _, q1, q2, q3⟩ | k
      · exact .inl ⟨id, o, x, q1, q2, q3⟩
      · exact .inr k
  · intro b cs hb
    rcases hnew b cs hb with k | ⟨id, o, x, _, q1, q2, q3⟩ | k
    · exact .inl k
    · exact .inr (.inl ⟨id, o, x, q1, q2, q3⟩)
    · exact .inr (.inr k)

inductive Po where
  | imm (t : Ty)
  | own (e : Ty)
  | deep (e : Ty)
@[reducible] def Po.den : Po → Type
  | .imm t => t.den
  | .own e => List e.den
  | .deep e => List e.den
@[reducible] def PD : List Po → Type
  | [] => Unit
  | p :: r => p.den × PD r
def encP : (ps : List Po) → PD ps → Nat → List V
  | [], _, _ => []
  | .imm t :: r, x, n => enc t x.1 ++ encP r x.2 n
  | .own _ :: r, x, n => .obj n 0 :: encP r x.2 (n + 1)
  | .deep _ :: r, x, n => .dob n 0 :: encP r x.2 (n + 1)
def thP : (ps : List Po) → PD ps → Heap
  | [], _ => []
  | .imm _ :: r, x => thP r x.2
  | .own e :: r, x => .sl 0 e x.1 :: thP r x.2
  | .deep e :: r, x => .dp 0 0 e x.1 :: thP r x.2
def cntP : List Po → Nat
  | [] => 0
  | .imm _ :: r => cntP r
  | .own _ :: r => cntP r + 1
  | .deep _ :: r => cntP r + 1
inductive RT where
  | cell (p : Po)
  | agg (ps : List Po)
@[reducible] def RT.den : RT → Type
  | .cell p => p.den
  | .agg ps => PD ps
@[reducible] def RD : List RT → Type
  | [] => Unit
  | r :: rs => r.den × RD rs
def cntR : RT → Nat
  | .cell (.imm _) => 0
  | .cell (.own _) => 1
  | .cell (.deep _) => 1
  | .agg ps => cntP ps
def valR : (r : RT) → r.den → Nat → V
  | .cell (.imm t), x, _ => (enc t x).headD .undef
  | .cell (.own _), _, n => .obj n 0
  | .cell (.deep _), _, n => .dob n 0
  | .agg ps, x, n => .agg (encP ps x n)
def thR : (r : RT) → r.den → Heap
  | .cell (.imm _), _ => []
  | .cell (.own e), xs => [.sl 0 e xs]
  | .cell (.deep e), xs => [.dp 0 0 e xs]
  | .agg ps, x => thP ps x
def valRs : (rs : List RT) → RD rs → Nat → List V
  | [], _, _ => []
  | r :: rs, x, n => valR r x.1 n :: valRs rs x.2 (n + cntR r)
def thRs : (rs : List RT) → RD rs → Heap
  | [], _ => []
  | r :: rs, x => thR r x.1 ++ thRs rs x.2
def giveP : List Po → List (Option Ty)
  | [] => []
  | .imm t :: r => List.replicate t.size none ++ giveP r
  | .own e :: r => some (ownE e) :: giveP r
  | .deep e :: r => some e :: giveP r
def giveR : RT → List (Option Ty)
  | .cell (.imm _) => [none]
  | .cell (.own e) => [some (ownE e)]
  | .cell (.deep e) => [some e]
  | .agg ps => giveP ps

def allP (p : Ty → Bool) : List Po → Bool
  | [] => true
  | .imm t :: r => p t && allP p r
  | .own e :: r => p e && allP p r
  | .deep _ :: r => allP p r
def atom : Ty → Bool
  | .pair _ _ => false
  | .unit => false
  | _ => true
def allR (p : Ty → Bool) : RT → Bool
  | .cell (.imm t) => p t && atom t
  | .cell (.own e) => p e
  | .cell (.deep _) => true
  | .agg ps => allP p ps
def allRs (p : Ty → Bool) : List RT → Bool
  | [] => true
  | r :: rs => allR p r && allRs p rs

section
variable {g1 g' : List G} {M1 Mn : Mem} {p : Ty → Bool} {n : Nat}
theorem encP_shift (hg : ∀ (j : Nat) (y : G), g1[j]? = some y → g'[n + j]? = some y) (hp : ∀ t, p t = true → ∀ (x : t.den) (cs : List Value), VRs g1 M1 (enc t x) cs → VRs g' Mn (enc t x) cs) :
    ∀ (ps : List Po) (x : PD ps) (k : Nat) {cs : List Value}, allP p ps = true → VRs g1 M1 (encP ps x k) cs → VRs g' Mn (encP ps x (n + k)) cs
  | [], _, _, _, _, h => by cases h; exact .nil
  | .imm t :: r, x, k, cs, ha, h => by
    simp only [allP, Bool.and_eq_true] at ha
    simp only [encP] at h ⊢
    obtain ⟨h1, h2⟩ := h.split
    have := (hp t ha.1 x.1 _ h1).append (encP_shift hg hp r x.2 k ha.2 h2)
    rwa [List.take_append_drop] at this
  | .own e :: r, x, k, cs, ha, h => by
    simp only [allP, Bool.and_eq_true] at ha
    simp only [encP] at h ⊢
    cases h with
    | cons a b =>
      refine .cons ?_ (encP_shift hg hp r x.2 (k + 1) ha.2 b)
      cases a with
      | obj _ _ ver' sz hh _ q1 q2 q3 q4 => exact .obj _ _ ver' sz hh _ (hg _ _ q1) q2 q3 q4
  | .deep e :: r, x, k, cs, ha, h => by
    simp only [allP] at ha
    simp only [encP] at h ⊢
    cases h with
    | cons a b =>
      refine .cons ?_ (encP_shift hg hp r x.2 (k + 1) ha b)
      cases a with
      | dob _ _ ver' iv sz bs ih hh _ q1 q2 q3 q4 => exact .dob _ _ ver' iv sz bs ih hh _ (hg _ _ q1) q2 q3 q4
theorem valR_shift (hg : ∀ (j : Nat) (y : G), g1[j]? = some y → g'[n + j]? = some y) (hp : ∀ t, p t = true → ∀ (x : t.den) (cs : List Value), VRs g1 M1 (enc t x) cs → VRs g' Mn (enc t x) cs) :
    ∀ (r : RT) (x : r.den) (k : Nat) {c : Value}, allR p r = true → VR g1 M1 (valR r x k) c → VR g' Mn (valR r x (n + k)) c
  | .cell (.imm t), x, k, c, ha, h => by
    simp only [allR, Bool.and_eq_true] at ha
    simp only [valR] at h ⊢
    cases t with
    | int k' => have := hp _ ha.1 x [c] (.cons h .nil); cases this with | cons a _ => exact a
    | float k' => have := hp _ ha.1 x [c] (.cons h .nil); cases this with | cons a _ => exact a
    | bool => have := hp _ ha.1 x [c] (.cons h .nil); cases this with | cons a _ => exact a
    | str => have := hp _ ha.1 x [c] (.cons h .nil); cases this with | cons a _ => exact a
    | slice t' => have := hp _ ha.1 x [c] (.cons h .nil); cases this with | cons a _ => exact a
    | unit => cases ha.2
    | pair a b => cases ha.2
  | .cell (.own e), x, k, c, ha, h => by
    simp only [valR] at h ⊢
    cases h with
    | obj _ _ ver' sz hh _ q1 q2 q3 q4 => exact .obj _ _ ver' sz hh _ (hg _ _ q1) q2 q3 q4
  | .cell (.deep e), x, k, c, ha, h => by
    simp only [valR] at h ⊢
    cases h with
    | dob _ _ ver' iv sz bs ih hh _ q1 q2 q3 q4 => exact .dob _ _ ver' iv sz bs ih hh _ (hg _ _ q1) q2 q3 q4
  | .agg ps, x, k, c, ha, h => by
    simp only [valR] at h ⊢
    cases h with
    | agg _ cs hvs => exact .agg _ cs (encP_shift hg hp ps x k ha hvs)
end

theorem valRs_shift {g1 g' : List G} {M1 Mn : Mem} {p : Ty → Bool} {n : Nat} (hg : ∀ (j : Nat) (y : G), g1[j]? = some y → g'[n + j]? = some y) (hp : ∀ t, p t = true → ∀ (x : t.den) (cs : List Value), VRs g1 M1 (enc t x) cs → VRs g' Mn (enc t x) cs) :
    ∀ (rs : List RT) (x : RD rs) (k : Nat) {cs : List Value}, allRs p rs = true → VRs g1 M1 (valRs rs x k) cs → VRs g' Mn (valRs rs x (n + k)) cs
  | [], _, _, _, _, h => by cases h; exact .nil
  | r :: rs, x, k, cs, ha, h => by
    simp only [allRs, Bool.and_eq_true] at ha
    cases h with
    | cons a b =>
      refine .cons (valR_shift hg hp r x.1 k ha.1 a) ?_
      rw [Nat.add_assoc]
      exact valRs_shift hg hp rs x.2 _ ha.2 b
theorem VR_tup {g g' : List G} {M M' : Mem} {vs us : List V} (hl : vs.length = us.length) (h : ∀ cs, VRs g M vs cs → VRs g' M' us cs) {c : Value} (hv : VR g M (tup vs) c) : VR g' M' (tup us) c := by
  match vs, us, hl with
  | [], [], _ => cases hv with | tuple _ cs hvs => exact .tuple _ cs (h _ hvs)
  | [v], [u], _ => cases h [c] (.cons hv .nil) with | cons a _ => exact a
  | _ :: _ :: _, _ :: _ :: _, _ => cases hv with | tuple _ cs hvs => exact .tuple _ cs (h _ hvs)
theorem valRs_len : ∀ (rs : List RT) (x : RD rs) (k : Nat), (valRs rs x k).length = rs.length
  | [], _, _ => rfl
  | r :: rs, x, k => by simp only [valRs, List.length_cons, valRs_len rs x.2]

def Given (p : Ty → Bool) (o : Ob) : Prop := ∃ (e : Ty) (xs : List e.den), (o = .sl 0 e xs ∧ p e = true) ∨ o = .dp 0 0 e xs
theorem thP_given {p : Ty → Bool} : ∀ (ps : List Po) (x : PD ps), allP p ps = true → ∀ o ∈ thP ps x, Given p o
  | [], _, _, o, h => by cases h
  | .imm _ :: r, x, ha, o, h => by
    simp only [allP, Bool.and_eq_true] at ha
    exact thP_given r x.2 ha.2 o h
  | .own e :: r, x, ha, o, h => by
    simp only [allP, Bool.and_eq_true] at ha
    simp only [thP, List.mem_cons] at h
    rcases h with rfl | h
    · exact ⟨e, x.1, .inl ⟨rfl, ha.1⟩⟩
    · exact thP_given r x.2 ha.2 o h
  | .deep e :: r, x, ha, o, h => by
    simp only [allP] at ha
    simp only [thP, List.mem_cons] at h
    rcases h with rfl | h
    · exact ⟨e, x.1, .inr rfl⟩
    · exact thP_given r x.2 ha o h
theorem thRs_given {p : Ty → Bool} : ∀ (rs : List RT) (x : RD rs), allRs p rs = true → ∀ o ∈ thRs rs x, Given p o
  | [], _, _, o, h => by cases h
  | r :: rs, x, ha, o, h => by
    simp only [allRs, Bool.and_eq_true] at ha
    simp only [thRs, List.mem_append] at h
    rcases h with h | h
    · match r, x, ha, h with
      | .cell (.own e), x, ha, h =>
        simp only [thR, List.mem_singleton] at h
        exact ⟨e, x.1, .inl ⟨h, ha.1⟩⟩
      | .cell (.deep e), x, ha, h =>
        simp only [thR, List.mem_singleton] at h
        exact ⟨e, x.1, .inr h⟩
      | .agg ps, x, ha, h => exact thP_given ps x.1 ha.1 o h
    · exact thRs_given rs x.2 ha.2 o h
theorem ObOk.given {p : Ty → Bool} {g1 g' : List G} {M1 Mn : Mem} {w : World} (hp : ∀ t, p t = true → ∀ (x : t.den) (cs : List Value), VRs g1 M1 (enc t x) cs → VRs g' Mn (enc t x) cs) (hn : ∀ b, M1 b = none → Mn b = none) {o : Ob} (ho : Given p o) {x : G} (h : ObOk g1 M1 w o x) : ObOk g' Mn w o x := by
  obtain ⟨e, xs, ⟨rfl, hpe⟩ | rfl⟩ := ho
  rotate_left
  · cases x <;> simp only [ObOk] at h ⊢
    exact ⟨h.1, h.2.1, h.2.2.1, fun b hb => hn b (h.2.2.2.1 b hb), h.2.2.2.2⟩
  cases x <;> simp only [ObOk] at h ⊢
  obtain ⟨h1, h2, h3, h4⟩ := h
  refine ⟨h1, h2, h3, h4.imp id ?_⟩
  rintro ⟨b, cap, c, T, fz, rfl, k2, k3, k4, k5, k6, k7⟩
  exact ⟨b, cap, c, T, fz, rfl, k2, k3, k4, fun i x hx => hp e hpe _ _ (k5 i x hx), k6, hn b k7⟩

def semV (l : List AT) (rs : List RT) (gd : ADen l → Bool) (f : ADen l → RD rs) : Sm := fun args H K =>
  bif immuts args then
    match decAs l args with
    | some x => cond (gd x) (K (tup (valRs rs (f x) H.length)) (H ++ thRs rs (f x))) False
    | none => False
  else bif allRs flatTy rs then
    match views3 H args with
    | some args' => match decAs l args' with
      | some x => cond (gd x) (K (tup (valRs rs (f x) H.length)) (H ++ thRs rs (f x))) False
      | none => False
    | none => False
  else False

theorem semV_glue {P : Program} {k : FuncId} {S : Sm} (hS : FnOkO P k S) {args' : List V} {rs : List RT} {y : RD rs} (h : ∀ K : V → Heap → Prop, K (tup (valRs rs y 0)) (thRs rs y) → S args' [] K)
    {w : World} {g : List G} {M Mv : Mem} {H : Heap} (hr : HR H g M w) {cargs : List Value} (ha : VRs [] Mv args' cargs) (hMv : MemOk Mv w) (hGv : GamOk P Mv) (hlv : ∀ b cs, M b = some cs → Mv b = some cs)
    {p : Ty → Bool} (hrs : allRs p rs = true) (hmode : Mv = M ∨ ∀ t, p t = true → flatTy t = true) :
    CallsX P k cargs.toArray w fun val w' => ∃ g' M', VR g' M' (tup (valRs rs y H.length)) val ∧ HR (H ++ thRs rs y) g' M' w' ∧ Ext g M g' M' ∧ Base w M (Z.of H g) (H ++ thRs rs y) g' M' w' := by
  obtain ⟨v, H1, h1, h2, h3⟩ := hS args' [] (fun v hs => v = tup (valRs rs y 0) ∧ hs = thRs rs y) (h _ ⟨rfl, rfl⟩)
  obtain ⟨rfl, rfl⟩ := h1
  have hr1 : HR [] [] Mv w := ⟨rfl, (by intro j o y p1; cases p1), (by intro j j' o o' y y' b p1; cases p1), hMv⟩
  refine (h3 w [] Mv _ ha hr1 hGv).mono ?_
  rintro val w' ⟨g1, M1, q1, q2, q3, q4⟩
  have hno : ∀ b, ¬ Own ([] : Heap) ([] : List G) b := by rintro b ⟨j, o, y, p1, _⟩; cases p1
  have hgn : ∀ (j : Nat) (y : G), g1[j]? = some y → (g ++ g1)[g.length + j]? = some y := fun j y hj => by
    rw [List.getElem?_append_right (by omega), show g.length + j - g.length = j by omega]; exact hj
  -- the memory that stays
  have key : ∃ Mn : Mem, MemOk Mn w' ∧ (∀ b cs, M b = some cs → Mn b = some cs) ∧ (∀ b cs, Mn b = some cs → M b = some cs ∨ w.heap.size ≤ b) ∧ (∀ b, M1 b = none → Mn b = none) ∧
      (∀ t, p t = true → ∀ (x : t.den) (cs : List Value), VRs g1 M1 (enc t x) cs → VRs (g ++ g1) Mn (enc t x) cs) := by
    rcases hmode with rfl | hflat
    · refine ⟨M1, q2.mem, q4.mle, fun b cs hb => ?_, fun _ h => h, fun t _ x cs hx => hx.imm (immuts_enc t x)⟩
      rcases q4.mnew b cs hb with k | k | k
      · exact .inl k
      · exact absurd k (hno b)
      · exact .inr k
    · refine ⟨M, ?_, fun _ _ h => h, fun _ _ h => .inl h, fun b hb => ?_, fun t ht x cs hx => hx.flat (flats_enc t x (hflat t ht))⟩
      · intro b cs hb
        obtain ⟨c, T, fz, k1, k2⟩ := hr.mem b cs hb
        exact ⟨c, T, fz, (q4.keep b (lt_of_cells k1) (hno b)).trans k1, k2⟩
      · cases e : M b with
        | none => rfl
        | some cs => rw [q4.mle b cs (hlv b cs e)] at hb; cases hb
  obtain ⟨Mn, m1, m2, m3, m4, m5⟩ := key
  have hgl := hr.len
  have hcase : ∀ (id : Nat) (o : Ob) (x : G), (H ++ thRs rs y)[id]? = some o → (g ++ g1)[id]? = some x → (id < H.length ∧ H[id]? = some o ∧ g[id]? = some x) ∨ (H.length ≤ id ∧ (thRs rs y)[id - H.length]? = some o ∧ g1[id - H.length]? = some x) := by
    intro id o x p1 p2
    rcases Nat.lt_or_ge id H.length with hl | hl
    · rw [List.getElem?_append_left hl] at p1
      rw [List.getElem?_append_left (by omega)] at p2
      exact .inl ⟨hl, p1, p2⟩
    · rw [List.getElem?_append_right hl] at p1
      rw [List.getElem?_append_right (by omega), ← hgl] at p2
      exact .inr ⟨hl, p1, p2⟩
  obtain ⟨r1, r2, r3⟩ := glue (L := fun _ => False) (H' := H ++ thRs rs y) (g' := g ++ g1) hr m1 m2 (fun b cs hb => (m3 b cs hb).imp id .inr) (fun b hb _ => q4.keep b hb (hno b)) q4.size q4.os q4.tape q4.output
    (by simp [hgl, q2.len]) (fun id x hx => by rw [List.getElem?_append_left (lt_of_get hx)]; exact hx) (by
      intro id o x p1 p2
      rcases hcase id o x p1 p2 with ⟨_, k1, k2⟩ | ⟨hl, k1, k2⟩
      · exact .inl ⟨fun h => h, k1, k2⟩
      · refine .inr ⟨ObOk.given m5 m4 (thRs_given rs y hrs o (List.mem_of_getElem? k1)) (q2.ob _ o x k1 k2), fun b hb => .inr ?_, ?_⟩
        · rcases q4.own b ⟨_, o, x, k1, k2, hb⟩ with k | k
          · exact absurd k (hno b)
          · exact k
        · intro id' o' x' b p3 p4 p5 p6
          rcases hcase id' o' x' p3 p4 with ⟨_, k3, k4⟩ | ⟨hl', k3, k4⟩
          · exact .inr ⟨fun h => h, k3, k4⟩
          · have := q2.apart _ _ o o' x x' b k1 k2 k3 k4 p5 p6
            exact .inl (by omega))
  refine ⟨g ++ g1, Mn, ?_, r1, r2, r3⟩
  have := VR_tup (g := g1) (M := M1) (g' := g ++ g1) (M' := Mn) (vs := valRs rs y 0) (us := valRs rs y (g.length + 0)) (by rw [valRs_len, valRs_len]) (fun cs hcs => valRs_shift hgn m5 rs y 0 hrs hcs) q1
  rw [Nat.add_zero, ← hgl] at this
  exact this

theorem fnOkO_give0 {P : Program} {k : FuncId} {S : Sm} (hS : FnOkO P k S) {l : List AT} {rs : List RT} {gd : ADen l → Bool} {f : ADen l → RD rs} (hrs : allRs (fun _ => true) rs = true)
    (h : ∀ (x : ADen l), WfAs l x → gd x = true → ∀ (K : V → Heap → Prop), K (tup (valRs rs (f x) 0)) (thRs rs (f x)) → S (encAs l x) [] K) : FnOkO P k (semV l rs gd f) := by
  intro args H K hk
  unfold semV at hk
  cases hi : immuts args with
  | true =>
    simp only [hi, cond_true] at hk
    split at hk
    · rename_i x hx
      cases hgd : gd x with
      | false => simp only [hgd, cond_false] at hk
      | true =>
        simp only [hgd, cond_true] at hk
        refine ⟨_, _, hk, fun K' h' => by simp only [semV, hi, hx, hgd, cond_true]; exact h', ?_⟩
        intro w g M cargs hv hr hG
        have hwx : WfAs l x := wfAs_of hx hv
        exact semV_glue hS (h x hwx hgd) hr ((decAs_sound hx hv).imm (immuts_encAs l x)) hr.mem hG (fun _ _ h => h) hrs (.inl rfl)
    · exact hk.elim
  | false =>
    simp only [hi, cond_false] at hk
    cases hf : allRs flatTy rs with
    | false => simp only [hf, cond_false] at hk
    | true =>
      simp only [hf, cond_true] at hk
      split at hk
      · rename_i args' hv'
        split at hk
        · rename_i x hx
          cases hgd : gd x with
          | false => simp only [hgd, cond_false] at hk
          | true =>
            simp only [hgd, cond_true] at hk
            refine ⟨_, _, hk, fun K' h' => by simp only [semV, hi, hf, hv', hx, hgd, cond_true, cond_false]; exact h', ?_⟩
            intro w g M cargs hv hr hG
            have hvv := views3_sound hr hv hv'
            have hwx : WfAs l x := wfAs_of hx hvv
            exact semV_glue hS (h x hwx hgd) hr ((decAs_sound hx hvv).imm (immuts_encAs l x)) (memAll_ok hr) (hG.mono (memAll_le H g M w)) (memAll_le H g M w) hf (.inr fun _ h => h)
        · exact hk.elim
      · exact hk.elim
theorem semV_local (l : List AT) (rs : List RT) (gd : ADen l → Bool) (f : ADen l → RD rs) : LocalS (semV l rs gd f) := by
  intro v r H K hk
  unfold semV at hk ⊢
  cases hi : immuts (v :: r) with
  | true =>
    simp only [hi, cond_true] at hk ⊢
    split at hk
    · rename_i x hx
      cases hgd : gd x with
      | false => simp only [hgd, cond_false] at hk
      | true =>
        simp only [hgd, cond_true] at hk ⊢
        exact ⟨hk, .of fun _ => .app _ _ _⟩
    · exact hk.elim
  | false =>
    simp only [hi, cond_false] at hk ⊢
    cases hf : allRs flatTy rs with
    | false => simp only [hf, cond_false] at hk
    | true =>
      simp only [hf, cond_true] at hk ⊢
      split at hk
      · rename_i args' hv'
        split at hk
        · rename_i x hx
          cases hgd : gd x with
          | false => simp only [hgd, cond_false] at hk
          | true =>
            simp only [hgd, cond_true] at hk ⊢
            exact ⟨hk, .of fun _ => .app _ _ _⟩
        · exact hk.elim
      · exact hk.elim
theorem semV_localE (l : List AT) (rs : List RT) (gd : ADen l → Bool) (f : ADen l → RD rs) : LocalE (semV l rs gd f) := by
  intro v r H K tt _ hk
  unfold semV at hk ⊢
  cases hi : immuts (v :: r) with
  | true =>
    simp only [hi, cond_true] at hk ⊢
    split at hk
    · rename_i x hx
      cases hgd : gd x with
      | false => simp only [hgd, cond_false] at hk
      | true =>
        simp only [hgd, cond_true] at hk ⊢
        exact ⟨hk, .app _ _ _⟩
    · exact hk.elim
  | false =>
    simp only [hi, cond_false] at hk ⊢
    cases hf : allRs flatTy rs with
    | false => simp only [hf, cond_false] at hk
    | true =>
      simp only [hf, cond_true] at hk ⊢
      split at hk
      · rename_i args' hv'
        split at hk
        · rename_i x hx
          cases hgd : gd x with
          | false => simp only [hgd, cond_false] at hk
          | true =>
            simp only [hgd, cond_true] at hk ⊢
            exact ⟨hk, .app _ _ _⟩
        · exact hk.elim
      · exact hk.elim
theorem fnOkO_give {P : Program} {k : FuncId} {S : Sm} (hS : FnOkO P k S) {l : List AT} {rs : List RT} {gd : ADen l → Bool} {f : ADen l → RD rs} (hrs : allRs (fun _ => true) rs = true)
    (h : ∀ (x : ADen l), WfAs l x → gd x = true → ∀ (K : V → Heap → Prop), K (tup (valRs rs (f x) 0)) (thRs rs (f x)) → S (encAs l x) [] K) : FnOkL P k (semV l rs gd f) := ⟨fnOkO_give0 hS hrs h, semV_local _ _ _ _⟩

theorem encP_from {g g' : List G} {M : Mem} {n : Nat} (hg : ∀ (j : Nat) (y : G), n ≤ j → g[j]? = some y → g'[j]? = some y) : ∀ (ps : List Po) (x : PD ps) (k : Nat) {cs : List Value}, n ≤ k → VRs g M (encP ps x k) cs → VRs g' M (encP ps x k) cs
  | [], _, _, _, _, h => by cases h; exact .nil
  | .imm t :: r, x, k, cs, hk, h => by
    simp only [encP] at h ⊢
    obtain ⟨h1, h2⟩ := h.split
    have := (h1.imm (g' := g') (immuts_enc t x.1)).append (encP_from hg r x.2 k hk h2)
    rwa [List.take_append_drop] at this
  | .own e :: r, x, k, cs, hk, h => by
    simp only [encP] at h ⊢
    cases h with
    | cons a b =>
      refine .cons ?_ (encP_from hg r x.2 (k + 1) (by omega) b)
      cases a with
      | obj _ _ ver' sz hh _ q1 q2 q3 q4 => exact .obj _ _ ver' sz hh _ (hg _ _ hk q1) q2 q3 q4
  | .deep e :: r, x, k, cs, hk, h => by
    simp only [encP] at h ⊢
    cases h with
    | cons a b =>
      refine .cons ?_ (encP_from hg r x.2 (k + 1) (by omega) b)
      cases a with
      | dob _ _ ver' iv sz bs ih hh _ q1 q2 q3 q4 => exact .dob _ _ ver' iv sz bs ih hh _ (hg _ _ hk q1) q2 q3 q4
theorem valRs_from {g g' : List G} {M : Mem} {n : Nat} (hg : ∀ (j : Nat) (y : G), n ≤ j → g[j]? = some y → g'[j]? = some y) : ∀ (rs : List RT) (x : RD rs) (k : Nat) {cs : List Value}, n ≤ k → VRs g M (valRs rs x k) cs → VRs g' M (valRs rs x k) cs
  | [], _, _, _, _, h => by cases h; exact .nil
  | r :: rs, x, k, cs, hk, h => by
    simp only [valRs] at h ⊢
    cases h with
    | cons a b =>
      refine .cons ?_ (valRs_from hg rs x.2 _ (by omega) b)
      match r, x, a with
      | .cell (.imm t), x, a =>
        simp only [valR] at a ⊢
        refine a.imm ?_
        have := immuts_enc t x.1
        cases e : enc t x.1 with
        | nil => rfl
        | cons v vs => rw [e] at this; simp only [immuts, Bool.and_eq_true] at this; exact this.1
      | .cell (.own e), x, a =>
        simp only [valR] at a ⊢
        cases a with
        | obj _ _ ver' sz hh _ q1 q2 q3 q4 => exact .obj _ _ ver' sz hh _ (hg _ _ hk q1) q2 q3 q4
      | .cell (.deep e), x, a =>
        simp only [valR] at a ⊢
        cases a with
        | dob _ _ ver' iv sz bs ih hh _ q1 q2 q3 q4 => exact .dob _ _ ver' iv sz bs ih hh _ (hg _ _ hk q1) q2 q3 q4
      | .agg ps, x, a =>
        simp only [valR] at a ⊢
        cases a with
        | agg _ cs hvs => exact .agg _ cs (encP_from hg ps x.1 k hk hvs)

def semPG (t : Ty) (l : List AT) (rs : List RT) (gd : t.den → ADen l → Bool) (f : t.den → ADen l → RD rs × t.den) : Sm := fun args H K =>
  match args with
  | .ptr id off :: r =>
    match H[id]? with
    | some (.box cells) =>
      match dec t cells with
      | some (s, []) =>
        match decAs l r with
        | some x => bif Nat.beq off 0 then cond (gd s x) (K (tup (valRs rs (f s x).1 H.length)) (H.set id (.box (enc t (f s x).2)) ++ thRs rs (f s x).1)) False else False
        | none => False
      | _ => False
    | _ => False
  | _ => False

theorem fnOkO_boxg0 {P : Program} {k : FuncId} {S : Sm} (hS : FnOkO P k S) {t : Ty} {l : List AT} {rs : List RT} {gd : t.den → ADen l → Bool} {f : t.den → ADen l → RD rs × t.den} (hrs : allRs (fun _ => true) rs = true)
    (h : ∀ (s : t.den) (x : ADen l), Wf t s → WfAs l x → gd s x = true → ∀ (K : V → Heap → Prop), K (tup (valRs rs (f s x).1 1)) (.box (enc t (f s x).2) :: thRs rs (f s x).1) → S (.ptr 0 0 :: encAs l x) [.box (enc t s)] K) : FnOkO P k (semPG t l rs gd f) := by
  intro args H K hk
  simp only [semPG] at hk
  split at hk
  · rename_i id off r
    split at hk
    · rename_i cells hid
      split at hk
      · rename_i s hd
        split at hk
        · rename_i x hx
          cases hoff : Nat.beq off 0 with
          | false => simp only [hoff, cond_false] at hk
          | true =>
            simp only [hoff, cond_true] at hk
            cases hgd : gd s x with
            | false => simp only [hgd, cond_false] at hk
            | true =>
            simp only [hgd, cond_true] at hk
            refine ⟨_, _, hk, fun K' h' => by simp only [semPG, hid, hd, hx, hoff, hgd, cond_true]; exact h', ?_⟩
            replace hoff := beq_true hoff
            subst hoff
            intro w g M cargs hv hr hG
            cases hv with
            | cons hp hrest =>
            cases hp with
            | ptr _ _ b hb =>
            have hob := hr.ob id _ _ hid hb
            simp only [ObOk] at hob
            obtain ⟨c, T, fz, k1, k2, k3, k4⟩ := hob
            obtain ⟨d1, d2⟩ := dec_sound t hd k2
            have hcl : c.toList.length = t.size := by
              have := d2.length
              have := d1.length
              rw [enc_length] at this
              simp at *
              omega
            have d1' : VRs g M (enc t s) c.toList := by rwa [List.take_of_length_le (by omega)] at d1
            have hws : Wf t s := wf_of_VRs t s d1'
            have hwx : WfAs l x := wfAs_of hx hrest
            generalize hys : (f s x).1 = ys at *
            generalize hs' : (f s x).2 = s' at *
            obtain ⟨v, H1, h1, h2, h3⟩ := hS (.ptr 0 0 :: encAs l x) [.box (enc t s)] (fun v hs => v = tup (valRs rs ys 1) ∧ hs = .box (enc t s') :: thRs rs ys) (h s x hws hwx hgd _ ⟨by rw [hys], by rw [hys, hs']⟩)
            obtain ⟨rfl, rfl⟩ := h1
            have hr1 : HR [.box (enc t s)] [.box b] M w := by
              refine ⟨rfl, ?_, ?_, hr.mem⟩
              · intro j o y p1 p2
                match j, p1, p2 with
                | 0, p1, p2 => cases p1; cases p2; exact ⟨c, T, fz, k1, d1'.imm (immuts_enc t s), k3, k4⟩
              · intro j j' o o' y y' b' p1 p2 p3 p4 _ _
                match j, j', p1, p3 with
                | 0, 0, _, _ => rfl
            refine (h3 w [.box b] M _ (.cons (.ptr 0 0 b rfl) ((decAs_sound hx hrest).imm (immuts_encAs l x))) hr1 hG).mono ?_
            rintro val w' ⟨g1, M1, q1, q2, q3, q4⟩
            have hown1 : ∀ b', Own [.box (enc t s)] [.box b] b' → b' = b := fun b' hb' => own_one hb'
            have hL : ∀ b', Own [.box (enc t s)] [.box b] b' → ∃ (i : Nat) (o : Ob) (x : G), i = id ∧ H[i]? = some o ∧ g[i]? = some x ∧ ownB o x b' := by
              intro b' hb'
              have := hown1 b' hb'
              subst this
              exact ⟨id, _, _, rfl, hid, hb, rfl⟩
            have hg10 : g1[0]? = some (.box b) := q4.gbox 0 (.box b) ⟨rfl, rfl⟩
            have hg1l : g1.length = (thRs rs ys).length + 1 := by rw [← q2.len]; rfl
            have hgl := hr.len
            have hlt : id < H.length := lt_of_get hid
            have hcase : ∀ (j : Nat) (o : Ob) (x : G), (H.set id (.box (enc t s')) ++ thRs rs ys)[j]? = some o → (g ++ g1.drop 1)[j]? = some x →
                (j ≠ id ∧ j < H.length ∧ H[j]? = some o ∧ g[j]? = some x) ∨ (j = id ∧ o = .box (enc t s') ∧ x = .box b) ∨ (H.length ≤ j ∧ (thRs rs ys)[j - H.length]? = some o ∧ g1[j - H.length + 1]? = some x) := by
              intro j o x p1 p2
              rcases Nat.lt_or_ge j H.length with hl | hl
              · rw [List.getElem?_append_left (by simpa using hl)] at p1
                rw [List.getElem?_append_left (by omega)] at p2
                by_cases e : j = id
                · subst e
                  rw [List.getElem?_set_self hl] at p1
                  cases p1
                  rw [hb] at p2; cases p2
                  exact .inr (.inl ⟨rfl, rfl, rfl⟩)
                · rw [List.getElem?_set_ne (fun e' => e e'.symm)] at p1
                  exact .inl ⟨e, hl, p1, p2⟩
              · rw [List.getElem?_append_right (by simpa using hl)] at p1
                rw [List.getElem?_append_right (by omega), ← hgl, List.getElem?_drop, Nat.add_comm 1] at p2
                simp only [List.length_set] at p1
                exact .inr (.inr ⟨hl, p1, p2⟩)
            have hgn : ∀ (j : Nat) (y : G), 1 ≤ j → g1[j]? = some y → (g ++ g1.drop 1)[g.length - 1 + j]? = some y := fun j y hj1 hj => by
              rw [List.getElem?_append_right (by omega), List.getElem?_drop, show 1 + (g.length - 1 + j - g.length) = j by omega]; exact hj
            obtain ⟨r1, r2, r3⟩ := glue (L := fun i => i = id) (H' := H.set id (.box (enc t s')) ++ thRs rs ys) (g' := g ++ g1.drop 1) (w' := w') (Mn := M1) hr q2.mem q4.mle
              (fun b' cs hb' => by
                rcases q4.mnew b' cs hb' with k | k | k
                · exact .inl k
                · exact .inr (.inl (hL b' k))
                · exact .inr (.inr k))
              (fun b' hb' hn => q4.keep b' hb' fun ho => hn (hL b' ho)) q4.size q4.os q4.tape q4.output (by simp [hgl, hg1l]) (fun i x hx => by rw [List.getElem?_append_left (lt_of_get hx)]; exact hx) (by
                intro j o x p1 p2
                rcases hcase j o x p1 p2 with ⟨hne, _, k1, k2⟩ | ⟨rfl, rfl, rfl⟩ | ⟨hl, k1, k2⟩
                · exact .inl ⟨hne, k1, k2⟩
                · have hob1 := q2.ob 0 _ _ rfl hg10
                  simp only [ObOk] at hob1
                  obtain ⟨c', T', fz', m1, m2, m3, m4⟩ := hob1
                  refine .inr ⟨⟨c', T', fz', m1, m2.imm (immuts_enc t _), m3, m4⟩, fun b' hb' => .inl ?_, ?_⟩
                  · simp only [ownB] at hb'
                    subst hb'
                    exact ⟨j, _, _, rfl, hid, hb, rfl⟩
                  · intro j' o' x' b' p3 p4 p5 p6
                    simp only [ownB] at p5
                    subst p5
                    rcases hcase j' o' x' p3 p4 with ⟨hne', _, k3, k4⟩ | ⟨rfl, _, _⟩ | ⟨hl', k3, k4⟩
                    · exact .inr ⟨hne', k3, k4⟩
                    · exact .inl rfl
                    · exfalso
                      have := q2.apart 0 (j' - H.length + 1) _ o' _ x' b rfl hg10 (by simpa using k3) k4 rfl p6
                      omega
                · have hk1 : (Ob.box (enc t s') :: thRs rs ys)[j - H.length + 1]? = some o := by simpa using k1
                  refine .inr ⟨ObOk.given (p := fun _ => true) (g1 := g1) (M1 := M1) (fun t _ x cs hx => hx.imm (immuts_enc t x)) (fun _ h => h) (thRs_given rs ys hrs o (List.mem_of_getElem? k1)) (q2.ob _ o x hk1 k2), fun b' hb' => ?_, ?_⟩
                  · rcases q4.own b' ⟨_, o, x, hk1, k2, hb'⟩ with k | k
                    · exact .inl (hL b' k)
                    · exact .inr k
                  · intro j' o' x' b' p3 p4 p5 p6
                    rcases hcase j' o' x' p3 p4 with ⟨hne', _, k3, k4⟩ | ⟨rfl, rfl, rfl⟩ | ⟨hl', k3, k4⟩
                    · exact .inr ⟨hne', k3, k4⟩
                    · exfalso
                      have := q2.apart 0 (j - H.length + 1) _ o _ x b' rfl hg10 hk1 k2 p6 p5
                      omega
                    · have := q2.apart _ _ o o' x x' b' hk1 k2 (show (Ob.box (enc t s') :: thRs rs ys)[j' - H.length + 1]? = some o' by simpa using k3) k4 p5 p6
                      exact .inl (by omega))
            refine ⟨g ++ g1.drop 1, M1, ?_, r1, r2, r3⟩
            have hpos : 0 < H.length := by omega
            -- the results' numbers begin behind the box
            have := VR_tup (g := g1) (M := M1) (g' := g ++ g1.drop 1) (M' := M1) (vs := valRs rs ys 1) (us := valRs rs ys H.length) (by rw [valRs_len, valRs_len]) (fun cs hcs => ?_) q1
            · exact this
            · have hsh := valRs_shift (g1 := .box b :: g1.drop 1) (n := H.length - 1) (g' := (List.replicate (H.length - 1) (G.box b)) ++ (.box b :: g1.drop 1)) (M1 := M1) (Mn := M1) (p := fun _ => true) (fun j y hj => by
                rw [List.getElem?_append_right (by simp), List.length_replicate, Nat.add_sub_cancel_left]; exact hj) (fun t _ x cs hx => hx.imm (immuts_enc t x)) rs ys 1 (cs := cs) hrs
              have hg1e : G.box b :: g1.drop 1 = g1 := by
                cases g1 with
                | nil => cases hg10
                | cons y r => simp at hg10; subst hg10; rfl
              rw [hg1e] at hsh
              have h5 := hsh hcs
              rw [show H.length - 1 + 1 = H.length by omega] at h5
              -- only numbers from there on are spoken of
              exact valRs_from (n := H.length) (fun j y hj hy => by
                rw [List.getElem?_append_right (by simp; omega), List.length_replicate] at hy
                have := hgn (j - (H.length - 1)) y (by omega) hy
                rw [show g.length - 1 + (j - (H.length - 1)) = j by omega] at this
                exact this) rs ys H.length (Nat.le_refl _) h5
        · exact hk.elim
      · exact hk.elim
    · exact hk.elim
  · exact hk.elim
theorem semPG_local (t : Ty) (l : List AT) (rs : List RT) (gd : t.den → ADen l → Bool) (f : t.den → ADen l → RD rs × t.den) : LocalS (semPG t l rs gd f) := by
  intro v r H K h
  cases v <;> simp only [semPG] at h ⊢
  rename_i id off
  split at h
  · rename_i cells hid
    split at h
    · rename_i s hd
      split at h
      · rename_i x hx
        cases hi : Nat.beq off 0 with
        | false => simp only [hi, cond_false] at h
        | true =>
          cases hg : gd s x with
          | false => simp only [hi, hg, cond_true, cond_false] at h
          | true =>
            simp only [hi, hg, cond_true] at h
            simp only [hid, hd, hx, hi, hg, cond_true]
            exact ⟨h, .ptr ((BoxesStay.set _ _ _).trans (.app _ _ _))⟩
      · exact h.elim
    · exact h.elim
  · exact h.elim
theorem semPG_localE (t : Ty) (l : List AT) (rs : List RT) (gd : t.den → ADen l → Bool) (f : t.den → ADen l → RD rs × t.den) : LocalE (semPG t l rs gd f) := by
  intro v r H K tt ht h
  cases v <;> simp only [semPG] at h ⊢
  rename_i id off
  have ht : tt = some id := by
    unfold touchL at ht
    cases hi : immuts r with
    | false => simp only [hi, cond_false] at ht; cases ht
    | true => simp only [hi, cond_true, cond_false] at ht; cases ht; rfl
  subst ht
  split at h
  · rename_i cells hid
    split at h
    · rename_i s hd
      split at h
      · rename_i x hx
        cases hi : Nat.beq off 0 with
        | false => simp only [hi, cond_false] at h
        | true =>
          cases hg : gd s x with
          | false => simp only [hi, hg, cond_true, cond_false] at h
          | true =>
            simp only [hi, hg, cond_true] at h
            simp only [hid, hd, hx, hi, hg, cond_true]
            exact ⟨h, (StayE.set _ _ _).trans (.app _ _ _)⟩
      · exact h.elim
    · exact h.elim
  · exact h.elim
theorem fnOkO_boxg {P : Program} {k : FuncId} {S : Sm} (hS : FnOkO P k S) {t : Ty} {l : List AT} {rs : List RT} {gd : t.den → ADen l → Bool} {f : t.den → ADen l → RD rs × t.den} (hrs : allRs (fun _ => true) rs = true)
    (h : ∀ (s : t.den) (x : ADen l), Wf t s → WfAs l x → gd s x = true → ∀ (K : V → Heap → Prop), K (tup (valRs rs (f s x).1 1)) (.box (enc t (f s x).2) :: thRs rs (f s x).1) → S (.ptr 0 0 :: encAs l x) [.box (enc t s)] K) : FnOkL P k (semPG t l rs gd f) :=
  ⟨fnOkO_boxg0 hS hrs h, semPG_local _ _ _ _ _⟩

def Zed (o0 o : Ob) : Prop := (∃ (ver : Nat) (e : Ty) (xs : List e.den), o0 = .sl ver e xs ∧ o = .sl 0 e xs) ∨ (∃ (ver iv : Nat) (e : Ty) (xs : List e.den), o0 = .dp ver iv e xs ∧ o = .dp 0 0 e xs)
theorem Zed.given {o0 o : Ob} (h : Zed o0 o) : Given (fun _ => true) o := by
  rcases h with ⟨ver, e, xs, _, h⟩ | ⟨ver, iv, e, xs, _, h⟩
  · exact ⟨e, xs, .inl ⟨h, rfl⟩⟩
  · exact ⟨e, xs, .inr h⟩
theorem fnOkO_runG {P : Program} {C : Ctx} {ty : TypeId → Ty} {kv kf ko : List (FuncId × Sm)} {n : Nat} {ann : Nat → Option Ann} {base : Nat} {cut : Bool} {kd : List (FuncId × Sm)} {deep mv vw : Bool} {ke : List (FuncId × Sm)} (ps : List (List (Option Ty))) (hC : C = mkC P ty kv kf ko n ann base cut kd deep mv vw ke) (hm : P.follows .mixedOrders = true)
    (h1 : Known P kv) (h2 : Known P kf) (h3 : KnownO P ko) {k : FuncId} {fn : Func} (hf : P.funcs[k]? = some fn) (hn : (fn.name == "runtime.NumGoroutine") = false) (h4 : Known P kd := by exact .nil) (h5 : KnownE P ke := by exact .nil) : FnOkO P k (wpFnG ps C fn) := by
  subst hC
  exact fnOkO_of_wpFnG (lok_tiOf P ty _ rfl) (mkC_calls h1 h2 h3 h4 h5) hm ps hf hn

section
variable {g : List G} {M : Mem} {w : World} {H : Heap}
end
mutual
theorem VR.immut_nil {M : Mem} : ∀ {v : V} {c : Value}, VR [] M v c → immut v = true
  | _, _, .undef v => rfl
  | _, _, .bool b => rfl
  | _, _, .int k n h => rfl
  | _, _, .nanb n h h' => rfl
  | _, _, .empty b z ad cap h h' => rfl
  | _, _, .dob id ver ver' iv sz bs ih h val h1 h2 h3 h4 => by cases h1
  | _, _, .dep id ver ver' iv sz j off b o bs ih h h1 h2 h3 h4 => by cases h1
  | _, _, .inn id iv iv' ver j off sz bs ih h val h1 h2 h3 h4 => by cases h1
  | _, _, .float k b b' h h' => rfl
  | _, _, .str s l h h' => rfl
  | _, _, .agg vs cs h => by simp only [immut]; exact VRs.immut_nil h
  | _, _, .vecnil t ad cap => rfl
  | _, _, .vec t xs b off n cap cs h1 h2 h3 h4 => rfl
  | _, _, .nils => rfl
  | _, _, .nilp => rfl
  | _, _, .ref cells b base off o cs h1 h2 h3 => by simp only [immut]; exact VRs.immut_nil h2
  | _, _, .ptr id off b h => by cases h
  | _, _, .obj id ver ver' sz h val h1 h2 h3 h4 => by cases h1
  | _, _, .eptr id ver ver' sz j off b o h h1 h2 h3 h4 => by cases h1
  | _, _, .bptr id b buf h => by cases h
  | _, _, .psl id b t n h hn => by cases h
  | _, _, .fn f vs cs h => by simp only [immut]; exact VRs.immut_nil h
  | _, _, .tuple vs cs h => by simp only [immut]; exact VRs.immut_nil h
theorem VRs.immut_nil {M : Mem} : ∀ {vs : List V} {cs : List Value}, VRs [] M vs cs → immuts vs = true
  | _, _, .nil => rfl
  | _, _, .cons h t => by simp only [immuts, VR.immut_nil h, VRs.immut_nil t, Bool.and_self]
end
end Go.Ev

/- A call to which a thing is given away. -/
set_option linter.unusedVariables false
set_option linter.unusedSimpArgs false
namespace Go.Ev

def Z.all (H : Heap) (g : List G) : Z := ⟨Own H g, fun _ _ => False, 0, fun _ _ h => h.elim, fun _ _ h => h.elim⟩

section
variable {P : Program} {C : Ctx}
theorem HR.kill {H : Heap} {g : List G} {M : Mem} {w : World} (hr : HR H g M w) (L : List Nat) : HR (kill H L) g M w := by
  refine ⟨by rw [kill_len]; exact hr.len, ?_, ?_, hr.mem⟩
  · intro id o x h1 h2
    rcases kill_get h1 with ⟨_, rfl⟩ | ⟨_, k⟩
    · simp only [ObOk]
    · exact hr.ob id o x k h2
  · intro id id' o o' x x' b h1 h2 h3 h4 h5 h6
    rcases kill_get h1 with ⟨_, rfl⟩ | ⟨_, k⟩
    · simp [ownB] at h5
    · rcases kill_get h3 with ⟨_, rfl⟩ | ⟨_, k'⟩
      · simp [ownB] at h6
      · exact hr.apart id id' o o' x x' b k h2 k' h4 h5 h6

end
end Go.Ev

/- Small laws that the proofs of functions use. -/
set_option linter.unusedVariables false
namespace Go.Ev

theorem feq_self (k : FloatKind) (x : Nat) : feq k x x = !nan k x := by
  unfold feq Ieee.Format.order
  cases h : nan k x with
  | true => obtain ⟨s, t, e⟩ := read_nan h; rw [e]; rfl
  | false =>
    have := read_not_nan h
    cases e : k.format.read x with
    | nan s t => exact absurd e (this s t)
    | infinity s => simp [Ieee.Datum.order]
    | number s m p => simp [Ieee.Datum.order]

theorem wrap_of {k : IntKind} {n : Int} (h1 : k.min ≤ n) (h2 : n ≤ k.max) : k.wrap n = n := by
  cases k
  · exact IntWalk.i8_in n ⟨h1, h2⟩
  · exact IntWalk.i16_in n ⟨h1, h2⟩
  · exact IntWalk.i32_in n ⟨h1, h2⟩
  · exact IntWalk.i64_in n ⟨h1, h2⟩
  · exact IntWalk.u8_in n ⟨h1, h2⟩
  · exact IntWalk.u16_in n ⟨h1, h2⟩
  · exact IntWalk.u32_in n ⟨h1, h2⟩
  · exact IntWalk.u64_in n ⟨h1, h2⟩
theorem i64_of {n : Int} (h1 : -9223372036854775808 ≤ n) (h2 : n ≤ 9223372036854775807) : IntKind.i64.wrap n = n := wrap_of h1 h2
theorem d_lt {i n : Nat} (h : i < n) : decide ((i : Int) < (n : Int)) = true := decide_eq_true (by omega)
theorem d_nlt {i n : Nat} (h : ¬ i < n) : decide ((i : Int) < (n : Int)) = false := decide_eq_false (by omega)
theorem d_0 (i : Nat) : decide (0 ≤ (i : Int)) = true := decide_eq_true (by omega)
theorem d_t {p : Prop} [Decidable p] (h : p) : decide p = true := decide_eq_true h
theorem d_f {p : Prop} [Decidable p] (h : ¬ p) : decide p = false := decide_eq_false h
theorem blt_t {i n : Nat} (h : i < n) : Nat.blt i n = true := by rw [Nat.blt_eq]; exact h
theorem get_lt {α : Type} {xs : List α} {i : Nat} (h : i < xs.length) : xs[i]? = some (xs[i]'h) := List.getElem?_eq_getElem h
theorem take_one {α : Type} {xs : List α} {i : Nat} (h : i < xs.length) : xs.take (i + 1) = xs.take i ++ [xs[i]'h] := by
  rw [List.take_add_one, get_lt h]; rfl
theorem fnOk_never {P : Program} {k : FuncId} {l : List AT} {gd : ADen l → Bool} {f : ADen l → V} (h : ∀ x : ADen l, gd x = false) : FnOk P k (semG l gd f) := by
  intro args K hk
  simp only [semG] at hk
  split at hk
  · rename_i x _
    simp only [h x, cond_false] at hk
  · exact hk.elim
end Go.Ev

/- What all laws of the seat share: types and the functions of single numbers. -/
set_option linter.unusedVariables false
set_option linter.unusedSimpArgs false
set_option maxRecDepth 100000
namespace Go.Proofs.Ytfhpmcdbfebflaa
open Go.Ev
noncomputable abbrev tyT : TypeId → Ty := elemTy Try.prog
abbrev tF : Ty := .float .f32
abbrev tV : Ty := .pair tF (.pair tF tF)
abbrev tB : Ty := .slice (.int .u8)
abbrev tSrc : Ty := .pair tB (.pair (.int .i64) (.int .u64))
theorem mixed : Try.prog.follows .mixedOrders = true := by kernel_rfl

abbrev s_math_Float32frombits : Sm := sF32from
theorem ok_math_Float32frombits : FnOk Try.prog 183 sF32from := ok_F32from Try.func183 (by kernel_rfl) (by kernel_rfl) (by kernel_rfl) (by kernel_rfl)
abbrev s_math_sqrt : Sm := sSqrt
theorem ok_math_sqrt : FnOk Try.prog 172 sSqrt := ok_sqrt Try.func172 (by kernel_rfl) (by kernel_rfl) (by kernel_rfl) (by kernel_rfl)

noncomputable def c_impl_isNaN : Ctx := mkC Try.prog tyT [] [] [] 6 (fun _ => none) 0
theorem w_impl_isNaN (x : Nat) (K : V → Heap → Prop) : wpFn c_impl_isNaN Try.f101 (encAs [.cell tF] (x, ())) [] K =
 K (.bool (!feq FloatKind.f32 x x)) [] := by kernel_rfl
noncomputable def s_impl_isNaN : Sm := semT [.cell tF] fun x => match x with | (x, _) => .bool (nan .f32 x)
theorem ok_impl_isNaN : FnOk Try.prog 101 s_impl_isNaN := fnOk_typed (fnOk_runC (C := c_impl_isNaN) rfl mixed .nil .nil .nil Try.func101 (by kernel_rfl)) fun (x : ((Nat) × Unit)) wf K h => by
  obtain ⟨x, ⟨⟩⟩ := x
  replace h : K (.bool (nan .f32 x)) [] := h
  rw [w_impl_isNaN x K]
  rw [feq_self, Bool.not_not]
  exact h

abbrev V3 := Nat × Nat × Nat
end Go.Proofs.Ytfhpmcdbfebflaa

/- The source of bytes from which the laws draw. -/
set_option linter.unusedVariables false
set_option linter.unusedSimpArgs false
set_option maxRecDepth 100000
namespace Go.Proofs.Ytfhpmcdbfebflaa
open Go.Ev

abbrev SrcD := List Int × Int × Int

noncomputable def c_spec_l00From : Ctx := mkC Try.prog tyT [] [] [] 6 (fun _ => none) 0
theorem w_spec_l00From (xs : List Int) (K : V → Heap → Prop) : wpFnO c_spec_l00From Try.f67 (encAs [.cell tB] (xs, ())) [] K =
 K (.ptr 0 0) [(.box [(.vec (.int .u8) (xs)), (.int .i64 0), (.int .u64 0)])] := by kernel_rfl
noncomputable def s_spec_l00From : Sm := semN tSrc [.cell tB] fun x => match x with | (xs, _) => (xs, 0, 0)
theorem ok_spec_l00From : FnOkL Try.prog 67 s_spec_l00From := fnOkO_new (fnOkO_runC (C := c_spec_l00From) rfl mixed .nil .nil .nil Try.func67 (by kernel_rfl)) fun (x : ((List Int) × Unit)) wf K h => by
  obtain ⟨xs, ⟨⟩⟩ := x
  replace h : K (.ptr 0 0) [.box (enc tSrc ((xs, 0, 0)))] := h
  rw [w_spec_l00From xs K]
  exact h

def srcIn (L : Nat) (s : SrcD) : Bool := decide (0 ≤ s.2.1) && decide (s.2.1 ≤ (L : Int) * 1152921504606846976)
def byteOf (s : SrcD) : Int := bif decide (s.2.1 < (s.1.length : Int)) then (s.1[s.2.1.toNat]?).getD 0 else 0
def seedOf (s : SrcD) : Int := IntKind.u64.wrap (IntKind.u64.wrap (IntKind.u64.wrap (s.2.2 * 6364136223846793005) + IntKind.u64.wrap (byteOf s)) + 1442695040888963407)
def nextS (s : SrcD) : SrcD := (s.1, s.2.1 + 1, seedOf s)
def nextV (s : SrcD) : Int := bif decide (s.2.1 + 1 ≤ (s.1.length : Int)) then byteOf s
  else IntKind.i64.wrap (IntKind.u64.wrap ((BitVec.toNat (BitVec.ofInt (IntKind.bits IntKind.u64) (Int.fdiv (seedOf s) (2 ^ min (Int.toNat 40) (IntKind.bits IntKind.u64))) &&& BitVec.ofInt (IntKind.bits IntKind.u64) 255)) : Int))
theorem srcIn_iff {L : Nat} {s : SrcD} : srcIn L s = true ↔ 0 ≤ s.2.1 ∧ s.2.1 ≤ (L : Int) * 1152921504606846976 := by
  simp [srcIn]
def bytes (xs : List Int) : Prop := ∀ b ∈ xs, 0 ≤ b ∧ b ≤ 255
theorem bytes_of {xs : List Int} (h : Wf tB xs) : bytes xs := fun b hb => h.2 b hb
theorem byteOf_range {s : SrcD} (h : bytes s.1) : 0 ≤ byteOf s ∧ byteOf s ≤ 255 := by
  unfold byteOf
  cases decide (s.2.1 < (s.1.length : Int)) with
  | false => simp
  | true =>
    simp only [cond_true]
    cases e : s.1[s.2.1.toNat]? with
    | none => simp
    | some b => exact h b (List.mem_of_getElem? e)

noncomputable def c_spec_l00Src_next : Ctx := mkC Try.prog tyT [] [] [] 62 (fun _ => none) 1
theorem w_spec_l00Src_next (s : SrcD) (K : V → Heap → Prop) : wpFnO c_spec_l00Src_next Try.f130 (.ptr 0 0 :: encAs [] ()) [.box (enc tSrc s)] K =
  cond (decide (Prod.fst (Prod.snd s) < (↑(List.length (Prod.fst s)) : Int)))
    (cond (decide (0 ≤ Prod.fst (Prod.snd s)))
      ((match (Prod.fst s)[Int.toNat (Prod.fst (Prod.snd s))]? with
        | some y0 => cond (decide (IntKind.wrap IntKind.i64 (Prod.fst (Prod.snd s) + 1) ≤ (↑(List.length (Prod.fst s)) : Int)))
          (K (.int .i64 (IntKind.wrap IntKind.i64 y0)) [(.box [(.vec (.int .u8) (Prod.fst s)), (.int .i64 (IntKind.wrap IntKind.i64 (Prod.fst (Prod.snd s) + 1))), (.int .u64 (IntKind.wrap IntKind.u64 (IntKind.wrap IntKind.u64 (IntKind.wrap IntKind.u64 (Prod.snd (Prod.snd s) * 6364136223846793005) + IntKind.wrap IntKind.u64 (IntKind.wrap IntKind.i64 y0)) + 1442695040888963407)))])])
          (K (.int .i64 (IntKind.wrap IntKind.i64 (IntKind.wrap IntKind.u64 (↑(BitVec.toNat (BitVec.ofInt 64 (Int.fdiv (IntKind.wrap IntKind.u64 (IntKind.wrap IntKind.u64 (IntKind.wrap IntKind.u64 (Prod.snd (Prod.snd s) * 6364136223846793005) + IntKind.wrap IntKind.u64 (IntKind.wrap IntKind.i64 y0)) + 1442695040888963407)) (2 ^ 40)) &&& BitVec.ofInt 64 255)) : Int)))) [(.box [(.vec (.int .u8) (Prod.fst s)), (.int .i64 (IntKind.wrap IntKind.i64 (Prod.fst (Prod.snd s) + 1))), (.int .u64 (IntKind.wrap IntKind.u64 (IntKind.wrap IntKind.u64 (IntKind.wrap IntKind.u64 (Prod.snd (Prod.snd s) * 6364136223846793005) + IntKind.wrap IntKind.u64 (IntKind.wrap IntKind.i64 y0)) + 1442695040888963407)))])])
        | none => False))
      (False))
    (cond (decide (IntKind.wrap IntKind.i64 (Prod.fst (Prod.snd s) + 1) ≤ (↑(List.length (Prod.fst s)) : Int)))
      (K (.int .i64 0) [(.box [(.vec (.int .u8) (Prod.fst s)), (.int .i64 (IntKind.wrap IntKind.i64 (Prod.fst (Prod.snd s) + 1))), (.int .u64 (IntKind.wrap IntKind.u64 (IntKind.wrap IntKind.u64 (IntKind.wrap IntKind.u64 (Prod.snd (Prod.snd s) * 6364136223846793005) + IntKind.wrap IntKind.u64 0) + 1442695040888963407)))])])
      (K (.int .i64 (IntKind.wrap IntKind.i64 (IntKind.wrap IntKind.u64 (↑(BitVec.toNat (BitVec.ofInt 64 (Int.fdiv (IntKind.wrap IntKind.u64 (IntKind.wrap IntKind.u64 (IntKind.wrap IntKind.u64 (Prod.snd (Prod.snd s) * 6364136223846793005) + IntKind.wrap IntKind.u64 0) + 1442695040888963407)) (2 ^ 40)) &&& BitVec.ofInt 64 255)) : Int)))) [(.box [(.vec (.int .u8) (Prod.fst s)), (.int .i64 (IntKind.wrap IntKind.i64 (Prod.fst (Prod.snd s) + 1))), (.int .u64 (IntKind.wrap IntKind.u64 (IntKind.wrap IntKind.u64 (IntKind.wrap IntKind.u64 (Prod.snd (Prod.snd s) * 6364136223846793005) + IntKind.wrap IntKind.u64 0) + 1442695040888963407)))])])) := by kernel_rfl
noncomputable def s_spec_l00Src_next : Sm := semP tSrc [] (fun s x => match x with | _ => srcIn 7 s) fun s x => match x with | _ => (.int .i64 (nextV s), nextS s)
theorem ok_spec_l00Src_next : FnOkL Try.prog 130 s_spec_l00Src_next := fnOkO_box (fnOkO_runC (C := c_spec_l00Src_next) rfl mixed .nil .nil .nil Try.func130 (by kernel_rfl)) fun (s : SrcD) (x : Unit) ws wf hg K h => by
  obtain ⟨⟩ := x
  replace hg : (srcIn 7 s) = true := hg
  replace h : K (.int .i64 (nextV s)) [.box (enc tSrc (nextS s))] := h
  rw [w_spec_l00Src_next s  K]
  rw [srcIn_iff] at hg
  have hb : bytes s.1 := bytes_of ws.1
  have h64 : IntKind.i64.wrap (s.2.1 + 1) = s.2.1 + 1 := i64_of (by omega) (by omega)
  have h0 : decide (0 ≤ s.2.1) = true := decide_eq_true hg.1
  have hbr := byteOf_range hb
  have h1 : IntKind.i64.wrap (byteOf s) = byteOf s := i64_of (by omega) (by omega)
  rw [h64, h0]
  simp only [cond_true]
  obtain ⟨xs, at_, sd⟩ := s
  simp only [byteOf, nextS, nextV, seedOf, enc] at h h1 hg ⊢
  by_cases hlt : at_ < (xs.length : Int)
  · have e1 : decide (at_ < (xs.length : Int)) = true := decide_eq_true hlt
    simp only [e1, cond_true] at h h1 ⊢
    have hl : at_.toNat < xs.length := by omega
    have hx : xs[at_.toNat]? = some (xs[at_.toNat]'hl) := List.getElem?_eq_getElem hl
    simp only [hx, Option.getD_some] at h h1 ⊢
    simp only [h1]
    cases e : decide (at_ + 1 ≤ (xs.length : Int)) <;> simp only [e, cond_true, cond_false] at h ⊢ <;> exact h
  · have e1 : decide (at_ < (xs.length : Int)) = false := decide_eq_false hlt
    simp only [e1, cond_false] at h ⊢
    cases e : decide (at_ + 1 ≤ (xs.length : Int)) <;> simp only [e, cond_true, cond_false] at h ⊢ <;> exact h

theorem nextV_range {s : SrcD} (h : bytes s.1) : 0 ≤ nextV s ∧ nextV s ≤ 255 := by
  unfold nextV
  cases decide (s.2.1 + 1 ≤ (s.1.length : Int)) with
  | true => exact byteOf_range h
  | false =>
    simp only [cond_false]
    have key : BitVec.toNat (BitVec.ofInt (IntKind.bits IntKind.u64) (Int.fdiv (seedOf s) (2 ^ min (Int.toNat 40) (IntKind.bits IntKind.u64))) &&& BitVec.ofInt (IntKind.bits IntKind.u64) 255) ≤ 255 := by
      rw [BitVec.toNat_and]
      refine Nat.le_trans Nat.and_le_right ?_
      decide
    generalize BitVec.toNat (BitVec.ofInt (IntKind.bits IntKind.u64) (Int.fdiv (seedOf s) (2 ^ min (Int.toNat 40) (IntKind.bits IntKind.u64))) &&& BitVec.ofInt (IntKind.bits IntKind.u64) 255) = n at key
    have e3 : IntKind.u64.wrap (n : Int) = n := wrap_of (by have : IntKind.u64.min = 0 := rfl; omega) (by have : IntKind.u64.max = 18446744073709551615 := rfl; omega)
    rw [e3, i64_of (by omega) (by omega)]
    omega

structure SrcAt (L : Nat) (s : SrcD) : Prop where
  b : bytes s.1
  lo : 0 ≤ s.2.1
  hi : s.2.1 ≤ (L : Int) * 1152921504606846976
theorem SrcAt.ok {L : Nat} {s : SrcD} (h : SrcAt L s) : srcIn L s = true := srcIn_iff.2 ⟨h.lo, h.hi⟩
theorem SrcAt.of {L : Nat} {s : SrcD} (hb : bytes s.1) (h : srcIn L s = true) : SrcAt L s := ⟨hb, (srcIn_iff.1 h).1, (srcIn_iff.1 h).2⟩

def pickV (s : SrcD) (n : Int) : Int := bif decide (n ≤ 1) then 0 else bif decide (200 < n) then (nextV s * 256 + nextV (nextS s)).tmod n else (nextV s).tmod n
def pickS (s : SrcD) (n : Int) : SrcD := bif decide (n ≤ 1) then s else bif decide (200 < n) then nextS (nextS s) else nextS s
theorem pickS_1 (s : SrcD) (n : Int) : (pickS s n).1 = s.1 := by
  unfold pickS
  cases decide (n ≤ 1) <;> cases decide (200 < n) <;> rfl
theorem pickS_at (s : SrcD) (n : Int) : s.2.1 ≤ (pickS s n).2.1 ∧ (pickS s n).2.1 ≤ s.2.1 + 2 := by
  unfold pickS nextS
  cases decide (n ≤ 1) <;> cases decide (200 < n) <;> simp only [cond_true, cond_false] <;> omega
theorem pickV_range {s : SrcD} (h : bytes s.1) {n : Int} (hn : 1 ≤ n) : 0 ≤ pickV s n ∧ pickV s n < n := by
  have h1 := nextV_range h
  have h2 : 0 ≤ nextV (nextS s) ∧ nextV (nextS s) ≤ 255 := nextV_range (s := nextS s) h
  unfold pickV
  by_cases e1 : n ≤ 1
  · rw [decide_eq_true e1]; simp only [cond_true]; omega
  · rw [decide_eq_false e1]
    by_cases e2 : 200 < n
    · rw [decide_eq_true e2]
      simp only [cond_true, cond_false]
      exact ⟨Int.tmod_nonneg _ (by omega), Int.tmod_lt_of_pos _ (by omega)⟩
    · rw [decide_eq_false e2]
      simp only [cond_false]
      exact ⟨Int.tmod_nonneg _ (by omega), Int.tmod_lt_of_pos _ (by omega)⟩

noncomputable def c_spec_l00Src_pick : Ctx := mkC Try.prog tyT [] [] [(130, s_spec_l00Src_next)] 20 (fun _ => none) 1
theorem w_spec_l00Src_pick (s : SrcD) (n : Int) (K : V → Heap → Prop) : wpFnO c_spec_l00Src_pick Try.f70 (.ptr 0 0 :: encAs [.cell (.int .i64)] (n, ())) [.box (enc tSrc s)] K =
 cond (decide (n ≤ 1))
 (K (.int .i64 0) [(.box [(.vec (.int .u8) (Prod.fst s)), (.int .i64 (Prod.fst (Prod.snd s))), (.int .u64 (Prod.snd (Prod.snd s)))])])
 (cond (srcIn 7 s)
 (cond (decide (n > 200))
 (cond (srcIn 7 (nextS s))
 (cond (n == 0)
 (False)
 (K (.int .i64 (Int.tmod (IntKind.wrap IntKind.i64 (IntKind.wrap IntKind.i64 (nextV s * 256) + nextV (nextS s))) n)) [(.box [(.vec (.int .u8) (Prod.fst (nextS (nextS s)))), (.int .i64 (Prod.fst (Prod.snd (nextS (nextS s))))), (.int .u64 (Prod.snd (Prod.snd (nextS (nextS s)))))])]))
 (False))
 (cond (n == 0)
 (False)
 (K (.int .i64 (Int.tmod (nextV s) n)) [(.box [(.vec (.int .u8) (Prod.fst (nextS s))), (.int .i64 (Prod.fst (Prod.snd (nextS s)))), (.int .u64 (Prod.snd (Prod.snd (nextS s))))])])))
 (False)) := by kernel_rfl
noncomputable def s_spec_l00Src_pick : Sm := semP tSrc [.cell (.int .i64)] (fun s x => match x with | (n, _) => srcIn 6 s) fun s x => match x with | (n, _) => (.int .i64 (pickV s n), pickS s n)
theorem ok_spec_l00Src_pick : FnOkL Try.prog 70 s_spec_l00Src_pick := fnOkO_box (fnOkO_runC (C := c_spec_l00Src_pick) rfl mixed .nil .nil (.cons ok_spec_l00Src_next .nil) Try.func70 (by kernel_rfl)) fun (s : SrcD) (x : ((Int) × Unit)) ws wf hg K h => by
  obtain ⟨n, ⟨⟩⟩ := x
  replace hg : (srcIn 6 s) = true := hg
  replace h : K (.int .i64 (pickV s n)) [.box (enc tSrc (pickS s n))] := h
  rw [w_spec_l00Src_pick s n K]
  rw [srcIn_iff] at hg
  have hb : bytes s.1 := bytes_of ws.1
  have g7 : srcIn 7 s = true := srcIn_iff.2 (by omega)
  have g7' : srcIn 7 (nextS s) = true := srcIn_iff.2 (by simp only [nextS]; omega)
  have h1 := nextV_range hb
  have h2 : 0 ≤ nextV (nextS s) ∧ nextV (nextS s) ≤ 255 := nextV_range (s := nextS s) hb
  unfold pickV pickS at h
  by_cases e1 : n ≤ 1
  · simp only [decide_eq_true e1, cond_true] at h ⊢
    exact h
  · have e3 : (n == 0) = false := beq_eq_false_iff_ne.2 (by omega)
    simp only [decide_eq_false e1, cond_false, g7, g7', cond_true, e3] at h ⊢
    by_cases e2 : 200 < n
    · have e2' : n > 200 := e2
      simp only [decide_eq_true e2, cond_true] at h ⊢
      rw [i64_of (n := nextV s * 256) (by omega) (by omega), i64_of (by omega) (by omega)]
      exact h
    · have e2' : ¬ n > 200 := e2
      simp only [decide_eq_false e2, cond_false] at h ⊢
      exact h

noncomputable def c_spec_l00Src_one : Ctx := mkC Try.prog tyT [] [] [(70, s_spec_l00Src_pick)] 9 (fun _ => none) 1
theorem w_spec_l00Src_one (s : SrcD) (n : Int) (K : V → Heap → Prop) : wpFnO c_spec_l00Src_one Try.f127 (.ptr 0 0 :: encAs [.cell (.int .i64)] (n, ())) [.box (enc tSrc s)] K =
 cond (srcIn 6 s)
 (K (.bool (pickV s n == 0)) [(.box [(.vec (.int .u8) (Prod.fst (pickS s n))), (.int .i64 (Prod.fst (Prod.snd (pickS s n)))), (.int .u64 (Prod.snd (Prod.snd (pickS s n))))])])
 (False) := by kernel_rfl
noncomputable def s_spec_l00Src_one : Sm := semP tSrc [.cell (.int .i64)] (fun s x => match x with | (n, _) => srcIn 6 s) fun s x => match x with | (n, _) => (.bool (pickV s n == 0), pickS s n)
theorem ok_spec_l00Src_one : FnOkL Try.prog 127 s_spec_l00Src_one := fnOkO_box (fnOkO_runC (C := c_spec_l00Src_one) rfl mixed .nil .nil (.cons ok_spec_l00Src_pick .nil) Try.func127 (by kernel_rfl)) fun (s : SrcD) (x : ((Int) × Unit)) ws wf hg K h => by
  obtain ⟨n, ⟨⟩⟩ := x
  replace hg : (srcIn 6 s) = true := hg
  replace h : K (.bool (pickV s n == 0)) [.box (enc tSrc (pickS s n))] := h
  rw [w_spec_l00Src_one s n K]
  rw [hg]; exact h

noncomputable def c_spec_l00Src_among : Ctx := mkC Try.prog tyT [] [] [(70, s_spec_l00Src_pick)] 12 (fun _ => none) 1
theorem w_spec_l00Src_among (s : SrcD) (xs : List Int) (K : V → Heap → Prop) : wpFnO c_spec_l00Src_among Try.f128 (.ptr 0 0 :: encAs [.cell (.slice (.int .i64))] (xs, ())) [.box (enc tSrc s)] K =
  cond (srcIn 6 s)
    (cond (decide (0 ≤ pickV s (↑(List.length xs) : Int)))
      ((match xs[Int.toNat (pickV s (↑(List.length xs) : Int))]? with
        | some y0 => K (.int .i64 (y0)) [(.box [(.vec (.int .u8) (Prod.fst (pickS s (↑(List.length xs) : Int)))), (.int .i64 (Prod.fst (Prod.snd (pickS s (↑(List.length xs) : Int))))), (.int .u64 (Prod.snd (Prod.snd (pickS s (↑(List.length xs) : Int)))))])]
        | none => False))
      (False))
    (False) := by kernel_rfl
noncomputable def s_spec_l00Src_among : Sm := semP tSrc [.cell (.slice (.int .i64))] (fun s x => match x with | (xs, _) => srcIn 6 s && decide (1 ≤ xs.length)) fun s x => match x with | (xs, _) => (.int .i64 ((xs[(pickV s xs.length).toNat]?).getD 0), pickS s xs.length)
theorem ok_spec_l00Src_among : FnOkL Try.prog 128 s_spec_l00Src_among := fnOkO_box (fnOkO_runC (C := c_spec_l00Src_among) rfl mixed .nil .nil (.cons ok_spec_l00Src_pick .nil) Try.func128 (by kernel_rfl)) fun (s : SrcD) (x : ((List Int) × Unit)) ws wf hg K h => by
  obtain ⟨xs, ⟨⟩⟩ := x
  replace hg : (srcIn 6 s && decide (1 ≤ xs.length)) = true := hg
  replace h : K (.int .i64 ((xs[(pickV s xs.length).toNat]?).getD 0)) [.box (enc tSrc (pickS s xs.length))] := h
  rw [w_spec_l00Src_among s xs K]
  simp only [Bool.and_eq_true, decide_eq_true_eq] at hg
  have hb : bytes s.1 := bytes_of ws.1
  have hr := pickV_range (s := s) hb (n := (xs.length : Int)) (by omega)
  have h0 : decide (0 ≤ pickV s (xs.length : Int)) = true := decide_eq_true hr.1
  have hl : (pickV s (xs.length : Int)).toNat < xs.length := by omega
  have hx : xs[(pickV s (xs.length : Int)).toNat]? = some (xs[(pickV s (xs.length : Int)).toNat]'hl) := List.getElem?_eq_getElem hl
  simp only [hg.1, h0, cond_true, hx, Option.getD_some] at h ⊢
  exact h

end Go.Proofs.Ytfhpmcdbfebflaa

/- Where something is in a list. -/
set_option linter.unusedVariables false
set_option linter.unusedSimpArgs false
set_option maxRecDepth 100000
namespace Go.Proofs.Ytfhpmcdbfebflaa
open Go.Ev

def idxF {α : Type} (p : α → Bool) (xs : List α) : Int := bif xs.any p then (xs.findIdx p : Int) else -1
theorem idxF_none {α : Type} {p : α → Bool} {xs : List α} (h : xs.any p = false) : idxF p xs = -1 := by unfold idxF; rw [h]; rfl
theorem idxF_hit {α : Type} {p : α → Bool} {xs : List α} {i : Nat} (hi : i < xs.length) (h : (xs.take i).any p = false) (hp : p (xs[i]'hi) = true) : idxF p xs = i := by
  have ha : xs.any p = true := List.any_eq_true.2 ⟨_, List.getElem_mem hi, hp⟩
  unfold idxF
  rw [ha]
  simp only [cond_true]
  have : xs.findIdx p = i := by
    rw [List.findIdx_eq hi]
    refine ⟨hp, fun j hj => ?_⟩
    have h1 : xs[j]'(by omega) ∈ xs.take i := List.mem_iff_getElem?.2 ⟨j, by rw [List.getElem?_take, if_pos hj]; exact List.getElem?_eq_getElem (by omega)⟩
    have := List.any_eq_false.1 h _ h1
    simpa using this
  rw [this]
theorem any_snoc {α : Type} {f : α → Bool} {xs : List α} {i : Nat} (hi : i < xs.length) (h : (xs.take i).any f = false) (hp : f (xs[i]'hi) = false) : (xs.take (i + 1)).any f = false := by
  rw [take_one hi, List.any_append, h]
  simp [hp]
theorem idxF_ge {α : Type} (p : α → Bool) (xs : List α) : decide (idxF p xs ≥ 0) = xs.any p := by
  unfold idxF
  cases xs.any p with
  | true => simp only [cond_true]; exact decide_eq_true (by omega)
  | false => simp only [cond_false]; exact decide_eq_false (by omega)


end Go.Proofs.Ytfhpmcdbfebflaa

/- Vectors and lists: equality, copies, sizes. -/
set_option linter.unusedVariables false
set_option linter.unusedSimpArgs false
set_option maxRecDepth 100000
namespace Go.Proofs.Ytfhpmcdbfebflaa
open Go.Ev
abbrev tI : Ty := .int .i64

end Go.Proofs.Ytfhpmcdbfebflaa

/- Shapes: when they are valid. -/
set_option linter.unusedVariables false
set_option linter.unusedSimpArgs false
set_option maxRecDepth 100000
namespace Go.Proofs.Ytfhpmcdbfebflaa
open Go.Ev
abbrev tN : Ty := .pair tI (.pair tI (.pair tI (.slice tF)))
abbrev NodeD := Int × Int × Int × List Nat
abbrev tR : Ty := .pair tI (.pair tI (.pair .bool tI))

def inR (n lo hi : Int) : Bool := decide (n ≥ lo) && decide (n ≤ hi)
theorem inR_iff {n lo hi : Int} : inR n lo hi = true ↔ lo ≤ n ∧ n ≤ hi := by simp [inR]
def kindL : List (Int × Int × Bool × Int) := [(1, 0, false, 1), (3, 0, false, 1), (2, 0, false, 1), (2, 0, false, 1), (4, 0, false, 0), (0, 2, false, 0), (0, 2, false, 0), (0, 2, false, 0), (1, 2, false, 2), (3, 1, false, 0), (1, 1, false, 2), (3, 1, false, 2), (1, 1, true, 0), (0, 1, true, 0), (1, 1, true, 2), (1, 1, false, 0), (1, 1, false, 1)]
def isK (k : Int) : Bool := inR k 0 16
def kindV (k : Int) : Int × Int × Bool × Int := bif isK k then (kindL[k.toNat]?).getD (0, 0, false, 0) else (0, 0, false, 0)
def kindN (k : Int) : Int := (kindV k).1
def kindC (k : Int) : Int := (kindV k).2.1
def kindA (k : Int) : Bool := (kindV k).2.2.1
def kindS (k : Int) : Int := (kindV k).2.2.2
theorem kinds {k : Int} (h : isK k = true) : k = 0 ∨ k = 1 ∨ k = 2 ∨ k = 3 ∨ k = 4 ∨ k = 5 ∨ k = 6 ∨ k = 7 ∨ k = 8 ∨ k = 9 ∨ k = 10 ∨ k = 11 ∨ k = 12 ∨ k = 13 ∨ k = 14 ∨ k = 15 ∨ k = 16 := by
  have := inR_iff.1 h
  omega
theorem kindV_no {k : Int} (h : isK k = false) : kindV k = (0, 0, false, 0) := by unfold kindV; rw [h]; rfl
theorem isK_ne {k : Int} (h : isK k = false) {j : Int} (hj : 0 ≤ j ∧ j ≤ 16) : (k == j) = false := by
  refine beq_eq_false_iff_ne.2 fun e => ?_
  subst e
  rw [show isK k = true from inR_iff.2 hj] at h
  cases h

def finN (x : Nat) : Bool := feq FloatKind.f32 (fsub FloatKind.f32 x x) 0
def sgnB (s : Int) (x : Nat) : Bool := (s == 1 && flt FloatKind.f32 x 0) || (s == 2 && fle FloatKind.f32 x 0)
def numsB (k : Int) (xs : List Nat) : Bool := isK k && ((xs.length : Int) == kindN k && (!xs.any (fun x => !finN x) && !xs.any (fun x => sgnB (kindS k) x)))
def axB (k a b : Int) : Bool := (decide (kindC k > 0) || a == 0) && (kindC k == 2 || (b == 0 || (kindA k && inR b 0 2)))
theorem kindC_range (k : Int) : 0 ≤ kindC k ∧ kindC k ≤ 2 := by
  cases hk : isK k with
  | true => rcases kinds hk with e | e | e | e | e | e | e | e | e | e | e | e | e | e | e | e | e <;> subst e <;> decide
  | false => simp only [kindC, kindV_no hk]; decide
def kids (k a b : Int) : List Int := [a, b].take (kindC k).toNat

abbrev kidsN (n : NodeD) : List Int := kids n.1 n.2.1 n.2.2.1
def nodeB (i : Int) (n : NodeD) : Bool := numsB n.1 n.2.2.2 && (axB n.1 n.2.1 n.2.2.1 && (kidsN n).all (fun c => inR c 0 (i - 1)))
def inc1 (u : List Int) (c : Int) : List Int := u.set c.toNat (((u[c.toNat]?).getD 0) + 1)
def incs (u cs : List Int) : List Int := cs.foldl inc1 u
def usesOf (ns : List NodeD) (u : List Int) : List Int := ns.foldl (fun u n => incs u (kidsN n)) u
def nodesB (ns : List NodeD) : Bool := (List.range ns.length).all fun i => match ns[i]? with | some n => nodeB i n | none => true
def usesAt (ns : List NodeD) (i : Nat) : List Int := usesOf (ns.take i) (List.replicate ns.length 0)
def validS (ns : List NodeD) : Bool := inR ns.length 1 16 && (nodesB ns && ((usesAt ns ns.length).take (ns.length - 1)).all (fun x => x == 1))
def OkUp (ns : List NodeD) (i : Nat) : Prop := ∀ (j : Nat) (n : NodeD), j < i → ns[j]? = some n → nodeB j n = true
theorem okUp_all {ns : List NodeD} (h : OkUp ns ns.length) : nodesB ns = true := by
  refine List.all_eq_true.2 fun j hj => ?_
  cases e : ns[j]? with
  | none => rfl
  | some n => exact h j n (lt_of_get e) e
theorem valid_no {ns : List NodeD} {i : Nat} (hi : i < ns.length) (h : nodeB i (ns[i]'hi) = false) : validS ns = false := by
  have : nodesB ns = false := by
    refine List.all_eq_false.2 ⟨i, by simpa using hi, ?_⟩
    rw [get_lt hi]
    simp [h]
  unfold validS
  rw [this, Bool.false_and, Bool.and_false]
theorem okUp_succ {ns : List NodeD} {i : Nat} (hi : i < ns.length) (h : OkUp ns i) (hn : nodeB i (ns[i]'hi) = true) : OkUp ns (i + 1) := by
  intro j n hj e
  by_cases h' : j < i
  · exact h j n h' e
  · have : j = i := by omega
    subst this
    rw [get_lt hi] at e
    cases e
    exact hn
theorem usesAt_succ {ns : List NodeD} {i : Nat} (hi : i < ns.length) : usesAt ns (i + 1) = incs (usesAt ns i) (kidsN (ns[i]'hi)) := by
  unfold usesAt usesOf
  rw [take_one hi, List.foldl_append]
  rfl
theorem incs_take (u : List Int) {cs : List Int} {j : Nat} (hj : j < cs.length) : incs u (cs.take (j + 1)) = inc1 (incs u (cs.take j)) (cs[j]'hj) := by
  unfold incs
  rw [take_one hj, List.foldl_append]
  rfl
theorem inc1_facts {u : List Int} {c : Int} {B : Int} {i : Nat} (hc : 0 ≤ c ∧ c < i) (hu : ∀ x ∈ u, 0 ≤ x ∧ x ≤ B) (hB : 0 ≤ B) :
    (inc1 u c).length = u.length ∧ (∀ x ∈ inc1 u c, 0 ≤ x ∧ x ≤ B + 1) ∧ (∀ p, i ≤ p → (inc1 u c)[p]? = u[p]?) := by
  unfold inc1
  refine ⟨List.length_set, fun x hx => ?_, fun p hp => ?_⟩
  · rcases List.mem_or_eq_of_mem_set hx with h | h
    · have := hu x h; omega
    · subst h
      cases e : u[c.toNat]? with
      | none => simp; omega
      | some y => have := hu y (List.mem_of_getElem? e); simp; omega
  · rw [List.getElem?_set_ne (by omega)]
theorem incs_facts {i : Nat} : ∀ (cs : List Int) {u : List Int} {B : Int}, (∀ c ∈ cs, 0 ≤ c ∧ c < i) → (∀ x ∈ u, 0 ≤ x ∧ x ≤ B) → 0 ≤ B →
    (incs u cs).length = u.length ∧ (∀ x ∈ incs u cs, 0 ≤ x ∧ x ≤ B + cs.length) ∧ (∀ p, i ≤ p → (incs u cs)[p]? = u[p]?)
  | [], u, B, _, hu, hB => ⟨rfl, fun x hx => by have := hu x hx; simp; omega, fun _ _ => rfl⟩
  | c :: cs, u, B, hc, hu, hB => by
    obtain ⟨h1, h2, h3⟩ := inc1_facts (hc c (by simp)) hu hB
    obtain ⟨k1, k2, k3⟩ := incs_facts cs (u := inc1 u c) (B := B + 1) (fun c' hc' => hc c' (by simp [hc'])) h2 (by omega)
    refine ⟨k1.trans h1, fun x hx => ?_, fun p hp => (k3 p hp).trans (h3 p hp)⟩
    have := k2 x hx
    rw [List.length_cons]
    omega
theorem nodeB_kids {i : Int} {n : NodeD} (h : nodeB i n = true) : ∀ c ∈ kidsN n, 0 ≤ c ∧ c ≤ i - 1 := by
  unfold nodeB at h
  simp only [Bool.and_eq_true] at h
  intro c hc
  exact inR_iff.1 (List.all_eq_true.1 h.2.2 c hc)
theorem kids_len (n : NodeD) : (kidsN n).length ≤ 2 := by simp only [kidsN, kids, List.length_take, List.length_cons, List.length_nil]; omega
theorem uses_facts {ns : List NodeD} : ∀ (i : Nat), i ≤ ns.length → OkUp ns i →
    (usesAt ns i).length = ns.length ∧ (∀ x ∈ usesAt ns i, 0 ≤ x ∧ x ≤ 2 * (i : Int)) ∧ (∀ p x, i ≤ p + 1 → (usesAt ns i)[p]? = some x → x = 0)
  | 0, _, _ => by
    refine ⟨by simp [usesAt, usesOf], fun x hx => ?_, fun p x _ hx => ?_⟩
    · simp only [usesAt, usesOf, List.take_zero, List.foldl_nil, List.mem_replicate] at hx
      omega
    · simp only [usesAt, usesOf, List.take_zero, List.foldl_nil, List.getElem?_replicate] at hx
      split at hx
      · cases hx; rfl
      · cases hx
  | i + 1, hi, hok => by
    have hlt : i < ns.length := by omega
    obtain ⟨h1, h2, h3⟩ := uses_facts i (by omega) fun j n hj => hok j n (by omega)
    have hn := hok i _ (Nat.lt_succ_self i) (get_lt hlt)
    obtain ⟨k1, k2, k3⟩ := incs_facts (i := i) (kidsN (ns[i]'hlt)) (u := usesAt ns i) (B := 2 * (i : Int)) (fun c hc => by have := nodeB_kids hn c hc; omega) h2 (by omega)
    rw [usesAt_succ hlt]
    refine ⟨k1.trans h1, fun x hx => ?_, fun p x hp hx => ?_⟩
    · have := k2 x hx
      have := kids_len (ns[i]'hlt)
      omega
    · rw [k3 p (by omega)] at hx
      exact h3 p x (by omega) hx
theorem kind_cases {k : Int} (a b : Int) (h : isK k = true) : (inR k 0 4 = true ∧ inR k 5 8 = false ∧ kids k a b = []) ∨ (inR k 0 4 = false ∧ inR k 5 8 = false ∧ kids k a b = [a]) ∨ (inR k 0 4 = false ∧ inR k 5 8 = true ∧ kids k a b = [a, b]) := by
  rcases kinds h with e | e | e | e | e | e | e | e | e | e | e | e | e | e | e | e | e <;> subst e <;> first | exact .inl ⟨rfl, rfl, rfl⟩ | exact .inr (.inl ⟨rfl, rfl, rfl⟩) | exact .inr (.inr ⟨rfl, rfl, rfl⟩)
theorem kind_ax {k : Int} (a b : Int) (h : isK k = true) : (inR k 0 4 = true ∧ kids k a b = [] ∧ axB k a b = (a == 0 && b == 0)) ∨ (inR k 0 4 = false ∧ inR k 5 8 = false ∧ inR k 12 14 = false ∧ kids k a b = [a] ∧ axB k a b = (b == 0)) ∨
    (inR k 0 4 = false ∧ inR k 5 8 = false ∧ inR k 12 14 = true ∧ kids k a b = [a] ∧ axB k a b = inR b 0 2) ∨ (inR k 0 4 = false ∧ inR k 5 8 = true ∧ kids k a b = [a, b] ∧ axB k a b = true) := by
  have hb : (b == 0 || inR b 0 2) = inR b 0 2 := by
    by_cases e : b = 0
    · subst e; rfl
    · rw [beq_eq_false_iff_ne.2 e, Bool.false_or]
  have leaf : ∀ k, kindC k = 0 → kindA k = false → axB k a b = (a == 0 && b == 0) := by
    intro k h1 h2
    unfold axB
    rw [h1, h2]
    cases a == 0 <;> cases b == 0 <;> rfl
  have one : ∀ k, kindC k = 1 → kindA k = false → axB k a b = (b == 0) := by
    intro k h1 h2
    unfold axB
    rw [h1, h2]
    cases a == 0 <;> cases b == 0 <;> rfl
  have ax : ∀ k, kindC k = 1 → kindA k = true → axB k a b = inR b 0 2 := by
    intro k h1 h2
    unfold axB
    rw [h1, h2, ← hb]
    cases a == 0 <;> cases b == 0 <;> cases inR b 0 2 <;> rfl
  have two : ∀ k, kindC k = 2 → axB k a b = true := by
    intro k h1
    unfold axB
    rw [h1]
    cases a == 0 <;> rfl
  rcases kinds h with e | e | e | e | e | e | e | e | e | e | e | e | e | e | e | e | e <;> subst e <;> first
    | exact .inl ⟨rfl, rfl, leaf _ rfl rfl⟩
    | exact .inr (.inl ⟨rfl, rfl, rfl, rfl, one _ rfl rfl⟩)
    | exact .inr (.inr (.inl ⟨rfl, rfl, rfl, rfl, ax _ rfl rfl⟩))
    | exact .inr (.inr (.inr ⟨rfl, rfl, rfl, two _ rfl⟩))
theorem nodeB_isK {i : Int} {n : NodeD} (h : nodeB i n = true) : isK n.1 = true := by
  unfold nodeB numsB at h
  simp only [Bool.and_eq_true] at h
  exact h.1.1
theorem all_one (us : List Int) : (!us.any fun x => x != 1) = us.all fun x => x == 1 := by
  induction us with
  | nil => rfl
  | cons x us ih =>
    simp only [List.any_cons, List.all_cons, Bool.not_or, bne, Bool.not_not] at ih ⊢
    rw [ih]
theorem valid_last {ns : List NodeD} (h : inR ns.length 1 16 = true) (hok : OkUp ns ns.length) : validS ns = ((usesAt ns ns.length).take (ns.length - 1)).all (fun x => x == 1) := by
  unfold validS
  rw [h, okUp_all hok, Bool.true_and, Bool.true_and]

noncomputable def c_impl_in : Ctx := mkC Try.prog tyT [] [] [] 15 (fun _ => none) 0
theorem w_impl_in (n lo hi : Int) (K : V → Heap → Prop) : wpFn c_impl_in Try.f79 (encAs [.cell tI, .cell tI, .cell tI] (n, lo, hi, ())) [] K =
 cond (decide (n ≥ lo))
 (K (.bool (decide (n ≤ hi))) [])
 (K (.bool false) []) := by kernel_rfl
noncomputable def s_impl_in : Sm := semT [.cell tI, .cell tI, .cell tI] fun x => match x with | (n, lo, hi, _) => .bool (inR n lo hi)
theorem ok_impl_in : FnOk Try.prog 79 s_impl_in := fnOk_typed (fnOk_runC (C := c_impl_in) rfl mixed .nil .nil .nil Try.func79 (by kernel_rfl)) fun (x : ((Int) × (Int) × (Int) × Unit)) wf K h => by
  obtain ⟨n, lo, hi, ⟨⟩⟩ := x
  replace h : K (.bool (inR n lo hi)) [] := h
  rw [w_impl_in n lo hi K]
  revert h
  unfold inR
  cases decide (n ≥ lo) <;> exact id

noncomputable def c_spec_l00In : Ctx := mkC Try.prog tyT [] [] [] 15 (fun _ => none) 0
theorem w_spec_l00In (n lo hi : Int) (K : V → Heap → Prop) : wpFn c_spec_l00In Try.f169 (encAs [.cell tI, .cell tI, .cell tI] (n, lo, hi, ())) [] K =
 cond (decide (n ≥ lo))
 (K (.bool (decide (n ≤ hi))) [])
 (K (.bool false) []) := by kernel_rfl
noncomputable def s_spec_l00In : Sm := semT [.cell tI, .cell tI, .cell tI] fun x => match x with | (n, lo, hi, _) => .bool (inR n lo hi)
theorem ok_spec_l00In : FnOk Try.prog 169 s_spec_l00In := fnOk_typed (fnOk_runC (C := c_spec_l00In) rfl mixed .nil .nil .nil Try.func169 (by kernel_rfl)) fun (x : ((Int) × (Int) × (Int) × Unit)) wf K h => by
  obtain ⟨n, lo, hi, ⟨⟩⟩ := x
  replace h : K (.bool (inR n lo hi)) [] := h
  rw [w_spec_l00In n lo hi K]
  revert h
  unfold inR
  cases decide (n ≥ lo) <;> exact id

noncomputable def c_impl_ruleOf : Ctx := mkC Try.prog tyT [] [] [] 51 (fun _ => none) 0
theorem w_impl_ruleOf (k : Int) (K : V → Heap → Prop) : wpFn c_impl_ruleOf Try.f98 (encAs [.cell tI] (k, ())) [] K =
 cond (k == 0)
 (K (.tuple [(.agg [(.int .i64 1), (.int .i64 0), (.bool false), (.int .i64 1)]), (.bool true)]) [])
 (cond (k == 1)
 (K (.tuple [(.agg [(.int .i64 3), (.int .i64 0), (.bool false), (.int .i64 1)]), (.bool true)]) [])
 (cond (k == 2)
 (cond (k == 2)
 (K (.tuple [(.agg [(.int .i64 2), (.int .i64 0), (.bool false), (.int .i64 1)]), (.bool true)]) [])
 (cond (k == 4)
 (K (.tuple [(.agg [(.int .i64 4), (.int .i64 0), (.bool false), (.int .i64 0)]), (.bool true)]) [])
 (cond (k == 5)
 (cond (k == 5)
 (K (.tuple [(.agg [(.int .i64 0), (.int .i64 2), (.bool false), (.int .i64 0)]), (.bool true)]) [])
 (cond (k == 8)
 (K (.tuple [(.agg [(.int .i64 1), (.int .i64 2), (.bool false), (.int .i64 2)]), (.bool true)]) [])
 (cond (k == 9)
 (K (.tuple [(.agg [(.int .i64 3), (.int .i64 1), (.bool false), (.int .i64 0)]), (.bool true)]) [])
 (cond (k == 10)
 (K (.tuple [(.agg [(.int .i64 1), (.int .i64 1), (.bool false), (.int .i64 2)]), (.bool true)]) [])
 (cond (k == 11)
 (K (.tuple [(.agg [(.int .i64 3), (.int .i64 1), (.bool false), (.int .i64 2)]), (.bool true)]) [])
 (cond (k == 12)
 (K (.tuple [(.agg [(.int .i64 1), (.int .i64 1), (.bool true), (.int .i64 0)]), (.bool true)]) [])
 (cond (k == 13)
 (K (.tuple [(.agg [(.int .i64 0), (.int .i64 1), (.bool true), (.int .i64 0)]), (.bool true)]) [])
 (cond (k == 14)
 (K (.tuple [(.agg [(.int .i64 1), (.int .i64 1), (.bool true), (.int .i64 2)]), (.bool true)]) [])
 (cond (k == 15)
 (K (.tuple [(.agg [(.int .i64 1), (.int .i64 1), (.bool false), (.int .i64 0)]), (.bool true)]) [])
 (cond (k == 16)
 (K (.tuple [(.agg [(.int .i64 1), (.int .i64 1), (.bool false), (.int .i64 1)]), (.bool true)]) [])
 (K (.tuple [(.agg [(.int .i64 0), (.int .i64 0), (.bool false), (.int .i64 0)]), (.bool false)]) [])))))))))))
 (cond (k == 6)
 (cond (k == 6)
 (K (.tuple [(.agg [(.int .i64 0), (.int .i64 2), (.bool false), (.int .i64 0)]), (.bool true)]) [])
 (cond (k == 8)
 (K (.tuple [(.agg [(.int .i64 1), (.int .i64 2), (.bool false), (.int .i64 2)]), (.bool true)]) [])
 (cond (k == 9)
 (K (.tuple [(.agg [(.int .i64 3), (.int .i64 1), (.bool false), (.int .i64 0)]), (.bool true)]) [])
 (cond (k == 10)
 (K (.tuple [(.agg [(.int .i64 1), (.int .i64 1), (.bool false), (.int .i64 2)]), (.bool true)]) [])
 (cond (k == 11)
 (K (.tuple [(.agg [(.int .i64 3), (.int .i64 1), (.bool false), (.int .i64 2)]), (.bool true)]) [])
 (cond (k == 12)
 (K (.tuple [(.agg [(.int .i64 1), (.int .i64 1), (.bool true), (.int .i64 0)]), (.bool true)]) [])
 (cond (k == 13)
 (K (.tuple [(.agg [(.int .i64 0), (.int .i64 1), (.bool true), (.int .i64 0)]), (.bool true)]) [])
 (cond (k == 14)
 (K (.tuple [(.agg [(.int .i64 1), (.int .i64 1), (.bool true), (.int .i64 2)]), (.bool true)]) [])
 (cond (k == 15)
 (K (.tuple [(.agg [(.int .i64 1), (.int .i64 1), (.bool false), (.int .i64 0)]), (.bool true)]) [])
 (cond (k == 16)
 (K (.tuple [(.agg [(.int .i64 1), (.int .i64 1), (.bool false), (.int .i64 1)]), (.bool true)]) [])
 (K (.tuple [(.agg [(.int .i64 0), (.int .i64 0), (.bool false), (.int .i64 0)]), (.bool false)]) [])))))))))))
 (cond (k == 7)
 (K (.tuple [(.agg [(.int .i64 0), (.int .i64 2), (.bool false), (.int .i64 0)]), (.bool true)]) [])
 (cond (k == 8)
 (K (.tuple [(.agg [(.int .i64 1), (.int .i64 2), (.bool false), (.int .i64 2)]), (.bool true)]) [])
 (cond (k == 9)
 (K (.tuple [(.agg [(.int .i64 3), (.int .i64 1), (.bool false), (.int .i64 0)]), (.bool true)]) [])
 (cond (k == 10)
 (K (.tuple [(.agg [(.int .i64 1), (.int .i64 1), (.bool false), (.int .i64 2)]), (.bool true)]) [])
 (cond (k == 11)
 (K (.tuple [(.agg [(.int .i64 3), (.int .i64 1), (.bool false), (.int .i64 2)]), (.bool true)]) [])
 (cond (k == 12)
 (K (.tuple [(.agg [(.int .i64 1), (.int .i64 1), (.bool true), (.int .i64 0)]), (.bool true)]) [])
 (cond (k == 13)
 (K (.tuple [(.agg [(.int .i64 0), (.int .i64 1), (.bool true), (.int .i64 0)]), (.bool true)]) [])
 (cond (k == 14)
 (K (.tuple [(.agg [(.int .i64 1), (.int .i64 1), (.bool true), (.int .i64 2)]), (.bool true)]) [])
 (cond (k == 15)
 (K (.tuple [(.agg [(.int .i64 1), (.int .i64 1), (.bool false), (.int .i64 0)]), (.bool true)]) [])
 (cond (k == 16)
 (K (.tuple [(.agg [(.int .i64 1), (.int .i64 1), (.bool false), (.int .i64 1)]), (.bool true)]) [])
 (K (.tuple [(.agg [(.int .i64 0), (.int .i64 0), (.bool false), (.int .i64 0)]), (.bool false)]) [])))))))))))))))
 (cond (k == 3)
 (K (.tuple [(.agg [(.int .i64 2), (.int .i64 0), (.bool false), (.int .i64 1)]), (.bool true)]) [])
 (cond (k == 4)
 (K (.tuple [(.agg [(.int .i64 4), (.int .i64 0), (.bool false), (.int .i64 0)]), (.bool true)]) [])
 (cond (k == 5)
 (cond (k == 5)
 (K (.tuple [(.agg [(.int .i64 0), (.int .i64 2), (.bool false), (.int .i64 0)]), (.bool true)]) [])
 (cond (k == 8)
 (K (.tuple [(.agg [(.int .i64 1), (.int .i64 2), (.bool false), (.int .i64 2)]), (.bool true)]) [])
 (cond (k == 9)
 (K (.tuple [(.agg [(.int .i64 3), (.int .i64 1), (.bool false), (.int .i64 0)]), (.bool true)]) [])
 (cond (k == 10)
 (K (.tuple [(.agg [(.int .i64 1), (.int .i64 1), (.bool false), (.int .i64 2)]), (.bool true)]) [])
 (cond (k == 11)
 (K (.tuple [(.agg [(.int .i64 3), (.int .i64 1), (.bool false), (.int .i64 2)]), (.bool true)]) [])
 (cond (k == 12)
 (K (.tuple [(.agg [(.int .i64 1), (.int .i64 1), (.bool true), (.int .i64 0)]), (.bool true)]) [])
 (cond (k == 13)
 (K (.tuple [(.agg [(.int .i64 0), (.int .i64 1), (.bool true), (.int .i64 0)]), (.bool true)]) [])
 (cond (k == 14)
 (K (.tuple [(.agg [(.int .i64 1), (.int .i64 1), (.bool true), (.int .i64 2)]), (.bool true)]) [])
 (cond (k == 15)
 (K (.tuple [(.agg [(.int .i64 1), (.int .i64 1), (.bool false), (.int .i64 0)]), (.bool true)]) [])
 (cond (k == 16)
 (K (.tuple [(.agg [(.int .i64 1), (.int .i64 1), (.bool false), (.int .i64 1)]), (.bool true)]) [])
 (K (.tuple [(.agg [(.int .i64 0), (.int .i64 0), (.bool false), (.int .i64 0)]), (.bool false)]) [])))))))))))
 (cond (k == 6)
 (cond (k == 6)
 (K (.tuple [(.agg [(.int .i64 0), (.int .i64 2), (.bool false), (.int .i64 0)]), (.bool true)]) [])
 (cond (k == 8)
 (K (.tuple [(.agg [(.int .i64 1), (.int .i64 2), (.bool false), (.int .i64 2)]), (.bool true)]) [])
 (cond (k == 9)
 (K (.tuple [(.agg [(.int .i64 3), (.int .i64 1), (.bool false), (.int .i64 0)]), (.bool true)]) [])
 (cond (k == 10)
 (K (.tuple [(.agg [(.int .i64 1), (.int .i64 1), (.bool false), (.int .i64 2)]), (.bool true)]) [])
 (cond (k == 11)
 (K (.tuple [(.agg [(.int .i64 3), (.int .i64 1), (.bool false), (.int .i64 2)]), (.bool true)]) [])
 (cond (k == 12)
 (K (.tuple [(.agg [(.int .i64 1), (.int .i64 1), (.bool true), (.int .i64 0)]), (.bool true)]) [])
 (cond (k == 13)
 (K (.tuple [(.agg [(.int .i64 0), (.int .i64 1), (.bool true), (.int .i64 0)]), (.bool true)]) [])
 (cond (k == 14)
 (K (.tuple [(.agg [(.int .i64 1), (.int .i64 1), (.bool true), (.int .i64 2)]), (.bool true)]) [])
 (cond (k == 15)
 (K (.tuple [(.agg [(.int .i64 1), (.int .i64 1), (.bool false), (.int .i64 0)]), (.bool true)]) [])
 (cond (k == 16)
 (K (.tuple [(.agg [(.int .i64 1), (.int .i64 1), (.bool false), (.int .i64 1)]), (.bool true)]) [])
 (K (.tuple [(.agg [(.int .i64 0), (.int .i64 0), (.bool false), (.int .i64 0)]), (.bool false)]) [])))))))))))
 (cond (k == 7)
 (K (.tuple [(.agg [(.int .i64 0), (.int .i64 2), (.bool false), (.int .i64 0)]), (.bool true)]) [])
 (cond (k == 8)
 (K (.tuple [(.agg [(.int .i64 1), (.int .i64 2), (.bool false), (.int .i64 2)]), (.bool true)]) [])
 (cond (k == 9)
 (K (.tuple [(.agg [(.int .i64 3), (.int .i64 1), (.bool false), (.int .i64 0)]), (.bool true)]) [])
 (cond (k == 10)
 (K (.tuple [(.agg [(.int .i64 1), (.int .i64 1), (.bool false), (.int .i64 2)]), (.bool true)]) [])
 (cond (k == 11)
 (K (.tuple [(.agg [(.int .i64 3), (.int .i64 1), (.bool false), (.int .i64 2)]), (.bool true)]) [])
 (cond (k == 12)
 (K (.tuple [(.agg [(.int .i64 1), (.int .i64 1), (.bool true), (.int .i64 0)]), (.bool true)]) [])
 (cond (k == 13)
 (K (.tuple [(.agg [(.int .i64 0), (.int .i64 1), (.bool true), (.int .i64 0)]), (.bool true)]) [])
 (cond (k == 14)
 (K (.tuple [(.agg [(.int .i64 1), (.int .i64 1), (.bool true), (.int .i64 2)]), (.bool true)]) [])
 (cond (k == 15)
 (K (.tuple [(.agg [(.int .i64 1), (.int .i64 1), (.bool false), (.int .i64 0)]), (.bool true)]) [])
 (cond (k == 16)
 (K (.tuple [(.agg [(.int .i64 1), (.int .i64 1), (.bool false), (.int .i64 1)]), (.bool true)]) [])
 (K (.tuple [(.agg [(.int .i64 0), (.int .i64 0), (.bool false), (.int .i64 0)]), (.bool false)]) []))))))))))))))))) := by kernel_rfl
noncomputable def s_impl_ruleOf : Sm := semT [.cell tI] fun x => match x with | (k, _) => .tuple [.agg [.int .i64 (kindN k), .int .i64 (kindC k), .bool (kindA k), .int .i64 (kindS k)], .bool (isK k)]
theorem ok_impl_ruleOf : FnOk Try.prog 98 s_impl_ruleOf := fnOk_typed (fnOk_runC (C := c_impl_ruleOf) rfl mixed .nil .nil .nil Try.func98 (by kernel_rfl)) fun (x : ((Int) × Unit)) wf K h => by
  obtain ⟨k, ⟨⟩⟩ := x
  replace h : K (.tuple [.agg [.int .i64 (kindN k), .int .i64 (kindC k), .bool (kindA k), .int .i64 (kindS k)], .bool (isK k)]) [] := h
  rw [w_impl_ruleOf k K]
  cases hk : isK k with
  | true =>
    rw [hk] at h
    rcases kinds hk with e | e | e | e | e | e | e | e | e | e | e | e | e | e | e | e | e <;> subst e <;> exact h
  | false =>
    rw [hk] at h
    simp only [kindN, kindC, kindA, kindS, kindV_no hk] at h
    simp only [isK_ne hk (j := 0) (by decide), isK_ne hk (j := 1) (by decide), isK_ne hk (j := 2) (by decide), isK_ne hk (j := 3) (by decide), isK_ne hk (j := 4) (by decide), isK_ne hk (j := 5) (by decide), isK_ne hk (j := 6) (by decide), isK_ne hk (j := 7) (by decide), isK_ne hk (j := 8) (by decide), isK_ne hk (j := 9) (by decide), isK_ne hk (j := 10) (by decide), isK_ne hk (j := 11) (by decide), isK_ne hk (j := 12) (by decide), isK_ne hk (j := 13) (by decide), isK_ne hk (j := 14) (by decide), isK_ne hk (j := 15) (by decide), isK_ne hk (j := 16) (by decide), cond_false]
    exact h

noncomputable def c_impl_IsFinite : Ctx := mkC Try.prog tyT [] [] [] 7 (fun _ => none) 0
theorem w_impl_IsFinite (x : Nat) (K : V → Heap → Prop) : wpFn c_impl_IsFinite Try.f78 (encAs [.cell tF] (x, ())) [] K =
 K (.bool (feq FloatKind.f32 (fsub FloatKind.f32 x x) 0)) [] := by kernel_rfl
noncomputable def s_impl_IsFinite : Sm := semT [.cell tF] fun x => match x with | (x, _) => .bool (finN x)
theorem ok_impl_IsFinite : FnOk Try.prog 78 s_impl_IsFinite := fnOk_typed (fnOk_runC (C := c_impl_IsFinite) rfl mixed .nil .nil .nil Try.func78 (by kernel_rfl)) fun (x : ((Nat) × Unit)) wf K h => by
  obtain ⟨x, ⟨⟩⟩ := x
  replace h : K (.bool (finN x)) [] := h
  rw [w_impl_IsFinite x K]
  exact h

noncomputable def c_impl_finite_1 : Ctx := mkC Try.prog tyT [(78, s_impl_IsFinite)] [] [] 6 (fun _ => none) 0
theorem w_impl_finite_1 (x : Nat) (K : V → Heap → Prop) : wpFn c_impl_finite_1 Try.f157 (encAs [.cell tF] (x, ())) [] K =
 K (.bool (!finN x)) [] := by kernel_rfl
noncomputable def s_impl_finite_1 : Sm := semT [.cell tF] fun x => match x with | (x, _) => .bool (!finN x)
theorem ok_impl_finite_1 : FnOk Try.prog 157 s_impl_finite_1 := fnOk_typed (fnOk_runC (C := c_impl_finite_1) rfl mixed (.cons ok_impl_IsFinite .nil) .nil .nil Try.func157 (by kernel_rfl)) fun (x : ((Nat) × Unit)) wf K h => by
  obtain ⟨x, ⟨⟩⟩ := x
  replace h : K (.bool (!finN x)) [] := h
  rw [w_impl_finite_1 x K]
  exact h

noncomputable def a_slices_IndexFunc__float32_vfin : Nat → Option Ann := fun n => bif Nat.beq n 2 then some ⟨[0,1,7,8],0,false⟩ else none
noncomputable def c_slices_IndexFunc__float32_vfin : Ctx := mkC Try.prog tyT [(157, s_impl_finite_1)] [] [] 19 a_slices_IndexFunc__float32_vfin 0
noncomputable def fr_slices_IndexFunc__float32_vfin_2 (xs : List (Nat)) (n i : Int) : Fr := [(0, .vec (tF) xs), (1, .fn 157 []), (7, .int .i64 n), (8, .int .i64 i)]
theorem r_slices_IndexFunc__float32_vfin_2 (xs : List (Nat)) (n i : Int) (Kn : Fr → Heap → Prop) (K : V → Heap → Prop) : round c_slices_IndexFunc__float32_vfin ⟨[0,1,7,8],0,false⟩ (lb c_slices_IndexFunc__float32_vfin 2 Try.f168) (fr_slices_IndexFunc__float32_vfin_2 xs n i) [] Kn (lk c_slices_IndexFunc__float32_vfin 2 Try.f168 [] K) =
  cond (decide (i < n))
    (cond (decide (0 ≤ i))
      ((match xs[Int.toNat i]? with
        | some y0 => cond (!finN y0)
          (K (.int .i64 (i)) [])
          (Kn [(0, (.vec (.float .f32) (xs))), (1, (.fn 157 [])), (7, (.int .i64 (n))), (8, (.int .i64 (IntKind.wrap IntKind.i64 (i + 1))))] [])
        | none => False))
      (False))
    (K (.int .i64 (-1)) []) := by kernel_rfl
theorem w_slices_IndexFunc__float32_vfin (xs : List (Nat)) (K : V → Heap → Prop) : wpFn c_slices_IndexFunc__float32_vfin Try.f168 (encAs [.cell (.slice (tF)), .fn 157] (xs, (), ())) [] K =
 LoopE c_slices_IndexFunc__float32_vfin ⟨[0, 1, 7, 8], 0, false⟩ (lb c_slices_IndexFunc__float32_vfin 2 Try.f168) [(0, (.vec (.float .f32) (xs))), (1, (.fn 157 [])), (7, (.int .i64 ((↑(List.length xs) : Int)))), (8, (.int .i64 0))] [] (lk c_slices_IndexFunc__float32_vfin 2 Try.f168 [] K) := by kernel_rfl
noncomputable def s_slices_IndexFunc__float32_vfin : Sm := semT [.cell (.slice (tF)), .fn 157] fun x => match x with | (xs, _, _) => .int .i64 (idxF (fun x => !finN x) xs)
theorem ok_slices_IndexFunc__float32_vfin : FnOk Try.prog 168 s_slices_IndexFunc__float32_vfin := fnOk_typed (fnOk_runC (C := c_slices_IndexFunc__float32_vfin) rfl mixed (.cons ok_impl_finite_1 .nil) .nil .nil Try.func168 (by kernel_rfl)) fun (x : ((List (Nat)) × Unit × Unit)) wf K h => by
  obtain ⟨xs, ⟨⟩, ⟨⟩⟩ := x
  replace h : K (.int .i64 (idxF (fun x => !finN x) xs)) [] := h
  rw [w_slices_IndexFunc__float32_vfin xs K]
  obtain ⟨⟨wl, _⟩, _⟩ := wf
  have wl : xs.length ≤ 9223372036854775807 := wl
  refine loop_run (σ := Nat) (fun i => fr_slices_IndexFunc__float32_vfin_2 xs xs.length i) (fun _ => []) (fun i => i ≤ xs.length ∧ (xs.take i).any (fun x => !finN x) = false) (fun i => xs.length - i) ?_ 0 ⟨Nat.zero_le _, rfl⟩
  intro i hi Kn hk
  rw [r_slices_IndexFunc__float32_vfin_2 xs xs.length i Kn K]
  by_cases hlt : i < xs.length
  · simp only [d_lt hlt, d_0, cond_true, Int.toNat_natCast, get_lt hlt]
    cases hp : (fun x => !finN x) (xs[i]'hlt) with
    | true =>
      rw [idxF_hit hlt hi.2 hp] at h
      simp only at hp
      simp only [hp, cond_true]
      exact h
    | false =>
      have hn := any_snoc (f := (fun x => !finN x)) hlt hi.2 hp
      simp only at hp
      simp only [hp, cond_false]
      rw [i64_of (by omega) (by omega)]
      exact hk (i + 1) ⟨hlt, hn⟩ (by omega)
  · simp only [d_nlt hlt, cond_false]
    have : i = xs.length := by omega
    subst this
    have ha := hi.2
    rw [List.take_length] at ha
    rw [idxF_none ha] at h
    exact h

noncomputable def c_slices_ContainsFunc__float32_vfin : Ctx := mkC Try.prog tyT [(168, s_slices_IndexFunc__float32_vfin)] [] [] 9 (fun _ => none) 0
theorem w_slices_ContainsFunc__float32_vfin (xs : List (Nat)) (K : V → Heap → Prop) : wpFn c_slices_ContainsFunc__float32_vfin Try.f142 (encAs [.cell (.slice (tF)), .fn 157] (xs, (), ())) [] K =
 K (.bool (decide (idxF (fun x => !finN x) xs ≥ 0))) [] := by kernel_rfl
noncomputable def s_slices_ContainsFunc__float32_vfin : Sm := semT [.cell (.slice (tF)), .fn 157] fun x => match x with | (xs, _, _) => .bool (xs.any (fun x => !finN x))
theorem ok_slices_ContainsFunc__float32_vfin : FnOk Try.prog 142 s_slices_ContainsFunc__float32_vfin := fnOk_typed (fnOk_runC (C := c_slices_ContainsFunc__float32_vfin) rfl mixed (.cons ok_slices_IndexFunc__float32_vfin .nil) .nil .nil Try.func142 (by kernel_rfl)) fun (x : ((List (Nat)) × Unit × Unit)) wf K h => by
  obtain ⟨xs, ⟨⟩, ⟨⟩⟩ := x
  replace h : K (.bool (xs.any (fun x => !finN x))) [] := h
  rw [w_slices_ContainsFunc__float32_vfin xs K]
  rw [idxF_ge]
  exact h


noncomputable def c_impl_finite : Ctx := mkC Try.prog tyT [(142, s_slices_ContainsFunc__float32_vfin)] [] [] 6 (fun _ => none) 0
theorem w_impl_finite (xs : List Nat) (K : V → Heap → Prop) : wpFn c_impl_finite Try.f131 (encAs [.cell (.slice tF)] (xs, ())) [] K =
 K (.bool (!List.any xs fun x => !finN x)) [] := by kernel_rfl
noncomputable def s_impl_finite : Sm := semT [.cell (.slice tF)] fun x => match x with | (xs, _) => .bool (!xs.any (fun x => !finN x))
theorem ok_impl_finite : FnOk Try.prog 131 s_impl_finite := fnOk_typed (fnOk_runC (C := c_impl_finite) rfl mixed (.cons ok_slices_ContainsFunc__float32_vfin .nil) .nil .nil Try.func131 (by kernel_rfl)) fun (x : ((List Nat) × Unit)) wf K h => by
  obtain ⟨xs, ⟨⟩⟩ := x
  replace h : K (.bool (!xs.any (fun x => !finN x))) [] := h
  rw [w_impl_finite xs K]
  exact h

noncomputable def c_impl_numbersOk_1 : Ctx := mkC Try.prog tyT [] [] [] 20 (fun _ => none) 0
theorem w_impl_numbersOk_1 (x : Nat) (a b : Int) (c : Bool) (d : Int) (K : V → Heap → Prop) : wpFn c_impl_numbersOk_1 Try.f143 (encAs [.cell tF, .ref tR] (x, (a, b, c, d), ())) [] K =
 cond (d == 1)
 (cond (flt FloatKind.f32 x 0)
 (K (.bool true) [])
 (cond (d == 2)
 (K (.bool (fle FloatKind.f32 x 0)) [])
 (K (.bool false) [])))
 (cond (d == 2)
 (K (.bool (fle FloatKind.f32 x 0)) [])
 (K (.bool false) [])) := by kernel_rfl
noncomputable def s_impl_numbersOk_1 : Sm := semT [.cell tF, .ref tR] fun x => match x with | (x, (a, b, c, d), _) => .bool (sgnB d x)
theorem ok_impl_numbersOk_1 : FnOk Try.prog 143 s_impl_numbersOk_1 := fnOk_typed (fnOk_runC (C := c_impl_numbersOk_1) rfl mixed .nil .nil .nil Try.func143 (by kernel_rfl)) fun (x : ((Nat) × ((Int) × (Int) × (Bool) × (Int)) × Unit)) wf K h => by
  obtain ⟨x, ⟨a, b, c, d⟩, ⟨⟩⟩ := x
  replace h : K (.bool (sgnB d x)) [] := h
  rw [w_impl_numbersOk_1 x a b c d K]
  revert h
  unfold sgnB
  cases d == 1 <;> cases d == 2 <;> cases flt FloatKind.f32 x 0 <;> exact id

noncomputable def a_slices_IndexFunc__float32_vsgn : Nat → Option Ann := fun n => bif Nat.beq n 2 then some ⟨[0,1,7,8],0,false⟩ else none
noncomputable def c_slices_IndexFunc__float32_vsgn : Ctx := mkC Try.prog tyT [(143, s_impl_numbersOk_1)] [] [] 19 a_slices_IndexFunc__float32_vsgn 0
noncomputable def fr_slices_IndexFunc__float32_vsgn_2 (xs : List (Nat)) (a b : Int) (c : Bool) (d : Int) (n i : Int) : Fr := [(0, .vec (tF) xs), (1, .fn 143 [.ref [.int .i64 a, .int .i64 b, .bool c, .int .i64 d] 0]), (7, .int .i64 n), (8, .int .i64 i)]
theorem r_slices_IndexFunc__float32_vsgn_2 (xs : List (Nat)) (a b : Int) (c : Bool) (d : Int) (n i : Int) (Kn : Fr → Heap → Prop) (K : V → Heap → Prop) : round c_slices_IndexFunc__float32_vsgn ⟨[0,1,7,8],0,false⟩ (lb c_slices_IndexFunc__float32_vsgn 2 Try.f168) (fr_slices_IndexFunc__float32_vsgn_2 xs a b c d n i) [] Kn (lk c_slices_IndexFunc__float32_vsgn 2 Try.f168 [] K) =
  cond (decide (i < n))
    (cond (decide (0 ≤ i))
      ((match xs[Int.toNat i]? with
        | some y0 => cond (sgnB d y0)
          (K (.int .i64 (i)) [])
          (Kn [(0, (.vec (.float .f32) (xs))), (1, (.fn 143 [(.ref [(.int .i64 (a)), (.int .i64 (b)), (.bool (c)), (.int .i64 (d))] 0)])), (7, (.int .i64 (n))), (8, (.int .i64 (IntKind.wrap IntKind.i64 (i + 1))))] [])
        | none => False))
      (False))
    (K (.int .i64 (-1)) []) := by kernel_rfl
theorem w_slices_IndexFunc__float32_vsgn (xs : List (Nat)) (a b : Int) (c : Bool) (d : Int) (K : V → Heap → Prop) : wpFn c_slices_IndexFunc__float32_vsgn Try.f168 (encAs [.cell (.slice (tF)), .clo 143 tR] (xs, (a, b, c, d), ())) [] K =
 LoopE c_slices_IndexFunc__float32_vsgn ⟨[0, 1, 7, 8], 0, false⟩ (lb c_slices_IndexFunc__float32_vsgn 2 Try.f168) [(0, (.vec (.float .f32) (xs))), (1, (.fn 143 [(.ref [(.int .i64 (a)), (.int .i64 (b)), (.bool (c)), (.int .i64 (d))] 0)])), (7, (.int .i64 ((↑(List.length xs) : Int)))), (8, (.int .i64 0))] [] (lk c_slices_IndexFunc__float32_vsgn 2 Try.f168 [] K) := by kernel_rfl
noncomputable def s_slices_IndexFunc__float32_vsgn : Sm := semT [.cell (.slice (tF)), .clo 143 tR] fun x => match x with | (xs, (a, b, c, d), _) => .int .i64 (idxF (fun x => sgnB d x) xs)
theorem ok_slices_IndexFunc__float32_vsgn : FnOk Try.prog 168 s_slices_IndexFunc__float32_vsgn := fnOk_typed (fnOk_runC (C := c_slices_IndexFunc__float32_vsgn) rfl mixed (.cons ok_impl_numbersOk_1 .nil) .nil .nil Try.func168 (by kernel_rfl)) fun (x : ((List (Nat)) × ((Int) × (Int) × (Bool) × (Int)) × Unit)) wf K h => by
  obtain ⟨xs, ⟨a, b, c, d⟩, ⟨⟩⟩ := x
  replace h : K (.int .i64 (idxF (fun x => sgnB d x) xs)) [] := h
  rw [w_slices_IndexFunc__float32_vsgn xs a b c d K]
  obtain ⟨⟨wl, _⟩, _⟩ := wf
  have wl : xs.length ≤ 9223372036854775807 := wl
  refine loop_run (σ := Nat) (fun i => fr_slices_IndexFunc__float32_vsgn_2 xs a b c d xs.length i) (fun _ => []) (fun i => i ≤ xs.length ∧ (xs.take i).any (fun x => sgnB d x) = false) (fun i => xs.length - i) ?_ 0 ⟨Nat.zero_le _, rfl⟩
  intro i hi Kn hk
  rw [r_slices_IndexFunc__float32_vsgn_2 xs a b c d xs.length i Kn K]
  by_cases hlt : i < xs.length
  · simp only [d_lt hlt, d_0, cond_true, Int.toNat_natCast, get_lt hlt]
    cases hp : (fun x => sgnB d x) (xs[i]'hlt) with
    | true =>
      rw [idxF_hit hlt hi.2 hp] at h
      simp only at hp
      simp only [hp, cond_true]
      exact h
    | false =>
      have hn := any_snoc (f := (fun x => sgnB d x)) hlt hi.2 hp
      simp only at hp
      simp only [hp, cond_false]
      rw [i64_of (by omega) (by omega)]
      exact hk (i + 1) ⟨hlt, hn⟩ (by omega)
  · simp only [d_nlt hlt, cond_false]
    have : i = xs.length := by omega
    subst this
    have ha := hi.2
    rw [List.take_length] at ha
    rw [idxF_none ha] at h
    exact h

noncomputable def c_slices_ContainsFunc__float32_vsgn : Ctx := mkC Try.prog tyT [(168, s_slices_IndexFunc__float32_vsgn)] [] [] 9 (fun _ => none) 0
theorem w_slices_ContainsFunc__float32_vsgn (xs : List (Nat)) (a b : Int) (c : Bool) (d : Int) (K : V → Heap → Prop) : wpFn c_slices_ContainsFunc__float32_vsgn Try.f142 (encAs [.cell (.slice (tF)), .clo 143 tR] (xs, (a, b, c, d), ())) [] K =
 K (.bool (decide (idxF (fun x => sgnB d x) xs ≥ 0))) [] := by kernel_rfl
noncomputable def s_slices_ContainsFunc__float32_vsgn : Sm := semT [.cell (.slice (tF)), .clo 143 tR] fun x => match x with | (xs, (a, b, c, d), _) => .bool (xs.any (fun x => sgnB d x))
theorem ok_slices_ContainsFunc__float32_vsgn : FnOk Try.prog 142 s_slices_ContainsFunc__float32_vsgn := fnOk_typed (fnOk_runC (C := c_slices_ContainsFunc__float32_vsgn) rfl mixed (.cons ok_slices_IndexFunc__float32_vsgn .nil) .nil .nil Try.func142 (by kernel_rfl)) fun (x : ((List (Nat)) × ((Int) × (Int) × (Bool) × (Int)) × Unit)) wf K h => by
  obtain ⟨xs, ⟨a, b, c, d⟩, ⟨⟩⟩ := x
  replace h : K (.bool (xs.any (fun x => sgnB d x))) [] := h
  rw [w_slices_ContainsFunc__float32_vsgn xs a b c d K]
  rw [idxF_ge]
  exact h


noncomputable def c_impl_numbersOk : Ctx := mkC Try.prog tyT [(98, s_impl_ruleOf), (131, s_impl_finite), (142, s_slices_ContainsFunc__float32_vsgn)] [] [] 30 (fun _ => none) 0
theorem w_impl_numbersOk (k : Int) (xs : List Nat) (K : V → Heap → Prop) : wpFn c_impl_numbersOk Try.f92 (encAs [.cell tI, .cell (.slice tF)] (k, xs, ())) [] K =
 cond (!isK k)
 (K (.bool false) [])
 (cond ((↑(List.length xs) : Int) != kindN k)
 (K (.bool false) [])
 (cond (!!List.any xs fun x => !finN x)
 (K (.bool false) [])
 (K (.bool (!List.any xs fun x => sgnB (kindS k) x)) []))) := by kernel_rfl
noncomputable def s_impl_numbersOk : Sm := semT [.cell tI, .cell (.slice tF)] fun x => match x with | (k, xs, _) => .bool (numsB k xs)
theorem ok_impl_numbersOk : FnOk Try.prog 92 s_impl_numbersOk := fnOk_typed (fnOk_runC (C := c_impl_numbersOk) rfl mixed (.cons ok_impl_ruleOf (.cons ok_impl_finite (.cons ok_slices_ContainsFunc__float32_vsgn .nil))) .nil .nil Try.func92 (by kernel_rfl)) fun (x : ((Int) × (List Nat) × Unit)) wf K h => by
  obtain ⟨k, xs, ⟨⟩⟩ := x
  replace h : K (.bool (numsB k xs)) [] := h
  rw [w_impl_numbersOk k xs K]
  revert h
  unfold numsB
  simp only [bne]
  cases isK k <;> cases ((xs.length : Int) == kindN k) <;> cases (xs.any fun x => !finN x) <;> exact id

noncomputable def c_impl_axisOk : Ctx := mkC Try.prog tyT [(98, s_impl_ruleOf), (79, s_impl_in)] [] [] 46 (fun _ => none) 0
theorem w_impl_axisOk (k a b : Int) (xs : List Nat) (K : V → Heap → Prop) : wpFn c_impl_axisOk Try.f93 (encAs [.ref tN] ((k, a, b, xs), ())) [] K =
 cond (decide (kindC k > 0))
 (cond (kindC k == 2)
 (K (.bool true) [])
 (cond (b == 0)
 (K (.bool true) [])
 (cond (kindA k)
 (K (.bool (inR b 0 2)) [])
 (K (.bool false) []))))
 (cond (a == 0)
 (cond (kindC k == 2)
 (K (.bool true) [])
 (cond (b == 0)
 (K (.bool true) [])
 (cond (kindA k)
 (K (.bool (inR b 0 2)) [])
 (K (.bool false) []))))
 (K (.bool false) [])) := by kernel_rfl
noncomputable def s_impl_axisOk : Sm := semT [.ref tN] fun x => match x with | ((k, a, b, xs), _) => .bool (axB k a b)
theorem ok_impl_axisOk : FnOk Try.prog 93 s_impl_axisOk := fnOk_typed (fnOk_runC (C := c_impl_axisOk) rfl mixed (.cons ok_impl_ruleOf (.cons ok_impl_in .nil)) .nil .nil Try.func93 (by kernel_rfl)) fun (x : (((Int) × (Int) × (Int) × (List Nat)) × Unit)) wf K h => by
  obtain ⟨⟨k, a, b, xs⟩, ⟨⟩⟩ := x
  replace h : K (.bool (axB k a b)) [] := h
  rw [w_impl_axisOk k a b xs K]
  revert h
  unfold axB
  cases decide (kindC k > 0) <;> cases a == 0 <;> cases kindC k == 2 <;> cases b == 0 <;> cases kindA k <;> exact id

noncomputable def c_impl_childrenOf : Ctx := mkC Try.prog tyT [(98, s_impl_ruleOf)] [] [] 25 (fun _ => none) 0 true
theorem w_impl_childrenOf (k a b : Int) (xs : List Nat) (K : V → Heap → Prop) : wpFn c_impl_childrenOf Try.f83 (encAs [.ref tN] ((k, a, b, xs), ())) [] K =
 cond (decide (0 ≤ 0) && (decide (0 ≤ kindC k) && decide (kindC k ≤ (↑2 : Int))))
 (K (.vec (.int .i64) (List.drop 0 (List.take (Int.toNat (kindC k)) [a, b]))) [])
 (False) := by kernel_rfl
noncomputable def s_impl_childrenOf : Sm := semT [.ref tN] fun x => match x with | ((k, a, b, xs), _) => .vec tI (kids k a b)
theorem ok_impl_childrenOf : FnOk Try.prog 83 s_impl_childrenOf := fnOk_typed (fnOk_runC (C := c_impl_childrenOf) rfl mixed (.cons ok_impl_ruleOf .nil) .nil .nil Try.func83 (by kernel_rfl)) fun (x : (((Int) × (Int) × (Int) × (List Nat)) × Unit)) wf K h => by
  obtain ⟨⟨k, a, b, xs⟩, ⟨⟩⟩ := x
  replace h : K (.vec tI (kids k a b)) [] := h
  rw [w_impl_childrenOf k a b xs K]
  have hc := kindC_range k
  have h3 : kindC k ≤ 2 := hc.2
  simp only [hc.1, h3, Int.le_refl, decide_true, Bool.and_self, cond_true]
  exact h

noncomputable def c_impl_ValidShape_1 : Ctx := mkC Try.prog tyT [] [] [] 5 (fun _ => none) 0
theorem w_impl_ValidShape_1 (n : Int) (K : V → Heap → Prop) : wpFn c_impl_ValidShape_1 Try.f95 (encAs [.cell tI] (n, ())) [] K =
 K (.bool (n != 1)) [] := by kernel_rfl
noncomputable def s_impl_ValidShape_1 : Sm := semT [.cell tI] fun x => match x with | (n, _) => .bool (n != 1)
theorem ok_impl_ValidShape_1 : FnOk Try.prog 95 s_impl_ValidShape_1 := fnOk_typed (fnOk_runC (C := c_impl_ValidShape_1) rfl mixed .nil .nil .nil Try.func95 (by kernel_rfl)) fun (x : ((Int) × Unit)) wf K h => by
  obtain ⟨n, ⟨⟩⟩ := x
  replace h : K (.bool (n != 1)) [] := h
  rw [w_impl_ValidShape_1 n K]
  exact h

noncomputable def a_slices_IndexFunc__int_vone : Nat → Option Ann := fun n => bif Nat.beq n 2 then some ⟨[0,1,7,8],0,false⟩ else none
noncomputable def c_slices_IndexFunc__int_vone : Ctx := mkC Try.prog tyT [(95, s_impl_ValidShape_1)] [] [] 19 a_slices_IndexFunc__int_vone 0
noncomputable def fr_slices_IndexFunc__int_vone_2 (xs : List (Int)) (n i : Int) : Fr := [(0, .vec (tI) xs), (1, .fn 95 []), (7, .int .i64 n), (8, .int .i64 i)]
theorem r_slices_IndexFunc__int_vone_2 (xs : List (Int)) (n i : Int) (Kn : Fr → Heap → Prop) (K : V → Heap → Prop) : round c_slices_IndexFunc__int_vone ⟨[0,1,7,8],0,false⟩ (lb c_slices_IndexFunc__int_vone 2 Try.f144) (fr_slices_IndexFunc__int_vone_2 xs n i) [] Kn (lk c_slices_IndexFunc__int_vone 2 Try.f144 [] K) =
  cond (decide (i < n))
    (cond (decide (0 ≤ i))
      ((match xs[Int.toNat i]? with
        | some y0 => cond (y0 != 1)
          (K (.int .i64 (i)) [])
          (Kn [(0, (.vec (.int .i64) (xs))), (1, (.fn 95 [])), (7, (.int .i64 (n))), (8, (.int .i64 (IntKind.wrap IntKind.i64 (i + 1))))] [])
        | none => False))
      (False))
    (K (.int .i64 (-1)) []) := by kernel_rfl
theorem w_slices_IndexFunc__int_vone (xs : List (Int)) (K : V → Heap → Prop) : wpFn c_slices_IndexFunc__int_vone Try.f144 (encAs [.cell (.slice (tI)), .fn 95] (xs, (), ())) [] K =
 LoopE c_slices_IndexFunc__int_vone ⟨[0, 1, 7, 8], 0, false⟩ (lb c_slices_IndexFunc__int_vone 2 Try.f144) [(0, (.vec (.int .i64) (xs))), (1, (.fn 95 [])), (7, (.int .i64 ((↑(List.length xs) : Int)))), (8, (.int .i64 0))] [] (lk c_slices_IndexFunc__int_vone 2 Try.f144 [] K) := by kernel_rfl
noncomputable def s_slices_IndexFunc__int_vone : Sm := semT [.cell (.slice (tI)), .fn 95] fun x => match x with | (xs, _, _) => .int .i64 (idxF (fun x => x != 1) xs)
theorem ok_slices_IndexFunc__int_vone : FnOk Try.prog 144 s_slices_IndexFunc__int_vone := fnOk_typed (fnOk_runC (C := c_slices_IndexFunc__int_vone) rfl mixed (.cons ok_impl_ValidShape_1 .nil) .nil .nil Try.func144 (by kernel_rfl)) fun (x : ((List (Int)) × Unit × Unit)) wf K h => by
  obtain ⟨xs, ⟨⟩, ⟨⟩⟩ := x
  replace h : K (.int .i64 (idxF (fun x => x != 1) xs)) [] := h
  rw [w_slices_IndexFunc__int_vone xs K]
  obtain ⟨⟨wl, _⟩, _⟩ := wf
  have wl : xs.length ≤ 9223372036854775807 := wl
  refine loop_run (σ := Nat) (fun i => fr_slices_IndexFunc__int_vone_2 xs xs.length i) (fun _ => []) (fun i => i ≤ xs.length ∧ (xs.take i).any (fun x => x != 1) = false) (fun i => xs.length - i) ?_ 0 ⟨Nat.zero_le _, rfl⟩
  intro i hi Kn hk
  rw [r_slices_IndexFunc__int_vone_2 xs xs.length i Kn K]
  by_cases hlt : i < xs.length
  · simp only [d_lt hlt, d_0, cond_true, Int.toNat_natCast, get_lt hlt]
    cases hp : (fun x => x != 1) (xs[i]'hlt) with
    | true =>
      rw [idxF_hit hlt hi.2 hp] at h
      simp only at hp
      simp only [hp, cond_true]
      exact h
    | false =>
      have hn := any_snoc (f := (fun x => x != 1)) hlt hi.2 hp
      simp only at hp
      simp only [hp, cond_false]
      rw [i64_of (by omega) (by omega)]
      exact hk (i + 1) ⟨hlt, hn⟩ (by omega)
  · simp only [d_nlt hlt, cond_false]
    have : i = xs.length := by omega
    subst this
    have ha := hi.2
    rw [List.take_length] at ha
    rw [idxF_none ha] at h
    exact h

noncomputable def c_slices_ContainsFunc__int_vone : Ctx := mkC Try.prog tyT [(144, s_slices_IndexFunc__int_vone)] [] [] 9 (fun _ => none) 0
theorem w_slices_ContainsFunc__int_vone (xs : List (Int)) (K : V → Heap → Prop) : wpFn c_slices_ContainsFunc__int_vone Try.f94 (encAs [.cell (.slice (tI)), .fn 95] (xs, (), ())) [] K =
 K (.bool (decide (idxF (fun x => x != 1) xs ≥ 0))) [] := by kernel_rfl
noncomputable def s_slices_ContainsFunc__int_vone : Sm := semT [.cell (.slice (tI)), .fn 95] fun x => match x with | (xs, _, _) => .bool (xs.any (fun x => x != 1))
theorem ok_slices_ContainsFunc__int_vone : FnOk Try.prog 94 s_slices_ContainsFunc__int_vone := fnOk_typed (fnOk_runC (C := c_slices_ContainsFunc__int_vone) rfl mixed (.cons ok_slices_IndexFunc__int_vone .nil) .nil .nil Try.func94 (by kernel_rfl)) fun (x : ((List (Int)) × Unit × Unit)) wf K h => by
  obtain ⟨xs, ⟨⟩, ⟨⟩⟩ := x
  replace h : K (.bool (xs.any (fun x => x != 1))) [] := h
  rw [w_slices_ContainsFunc__int_vone xs K]
  rw [idxF_ge]
  exact h


noncomputable def a_impl_ValidShape : Nat → Option Ann := fun n => bif Nat.beq n 5 then some ⟨[1,3,20,21],2,false⟩ else bif Nat.beq n 11 then some ⟨[1,3,4,20,21,44,45,46],2,false⟩ else none
noncomputable def c_impl_ValidShape : Ctx := mkC Try.prog tyT [(79, s_impl_in), (92, s_impl_numbersOk), (93, s_impl_axisOk), (83, s_impl_childrenOf), (94, s_slices_ContainsFunc__int_vone)] [] [] 78 a_impl_ValidShape 0
noncomputable def fr_impl_ValidShape_5 (ns : List NodeD) (us : List Int) (n i : Int) : Fr := [(1, .ptr 0 0), (3, .obj 1 0), (20, .int .i64 n), (21, .int .i64 i)]
noncomputable def hp_impl_ValidShape_5 (ns : List NodeD) (us : List Int) (n i : Int) : Heap := [.box [.vec tN ns], .sl 0 tI us]
theorem r_impl_ValidShape_5 (ns : List NodeD) (us : List Int) (n i : Int) (Kn : Fr → Heap → Prop) (K : V → Heap → Prop) : round c_impl_ValidShape ⟨[1,3,20,21],2,false⟩ (lb c_impl_ValidShape 5 Try.f33) (fr_impl_ValidShape_5 ns us n i) (hp_impl_ValidShape_5 ns us n i) Kn (lk c_impl_ValidShape 5 Try.f33 [] K) =
  cond (decide (i < n))
    (cond (decide (0 ≤ i))
      ((match ns[Int.toNat i]? with
        | some y0 => cond (!numsB (Prod.fst y0) (Prod.snd (Prod.snd (Prod.snd y0))))
          (K (.bool false) [])
          (cond (!axB (Prod.fst y0) (Prod.fst (Prod.snd y0)) (Prod.fst (Prod.snd (Prod.snd y0))))
            (K (.bool false) [])
            (LoopE c_impl_ValidShape ⟨[1, 3, 4, 20, 21, 44, 45, 46], 2, false⟩ (pathB c_impl_ValidShape [5, 11] (bodyOf Try.f33)) [(1, (.ptr 0 0)), (3, (.obj 1 0)), (4, (.int .i64 (i))), (20, (.int .i64 (n))), (21, (.int .i64 (i))), (44, (.vec (.int .i64) (kids (Prod.fst y0) (Prod.fst (Prod.snd y0)) (Prod.fst (Prod.snd (Prod.snd y0)))))), (45, (.int .i64 ((↑(List.length (kids (Prod.fst y0) (Prod.fst (Prod.snd y0)) (Prod.fst (Prod.snd (Prod.snd y0))))) : Int)))), (46, (.int .i64 0))] [(.box [(.vec tN (ns))]), (.sl 0 (.int .i64) (us))] (pathK c_impl_ValidShape [(5, ⟨[1,3,20,21],2,false⟩, Kn)] 11 (bodyOf Try.f33) (kFn c_impl_ValidShape Try.f33 [] K))))
        | none => False))
      (False))
    (cond (decide (0 ≤ IntKind.wrap IntKind.i64 ((↑(List.length us) : Int) - 1)) && Nat.blt (Int.toNat (IntKind.wrap IntKind.i64 ((↑(List.length us) : Int) - 1))) (List.length us))
      ((match us[Int.toNat (IntKind.wrap IntKind.i64 ((↑(List.length us) : Int) - 1))]? with
        | some x1 => cond (x1 == 0)
          (cond (decide (0 ≤ 0) && (decide (0 ≤ IntKind.wrap IntKind.i64 ((↑(List.length us) : Int) - 1)) && decide (IntKind.wrap IntKind.i64 ((↑(List.length us) : Int) - 1) ≤ (↑(List.length us) : Int))))
            (K (.bool (!List.any (List.drop 0 (List.take (Int.toNat (IntKind.wrap IntKind.i64 ((↑(List.length us) : Int) - 1))) us)) fun x => x != 1)) [])
            (False))
          (K (.bool false) [])
        | none => False))
      (False)) := by kernel_rfl
noncomputable def fr_impl_ValidShape_11 (ns : List NodeD) (us : List Int) (n i p : Int) (cs : List Int) (m j : Int) : Fr := [(1, .ptr 0 0), (3, .obj 1 0), (4, .int .i64 p), (20, .int .i64 n), (21, .int .i64 i), (44, .vec tI cs), (45, .int .i64 m), (46, .int .i64 j)]
noncomputable def hp_impl_ValidShape_11 (ns : List NodeD) (us : List Int) (n i p : Int) (cs : List Int) (m j : Int) : Heap := [.box [.vec tN ns], .sl 0 tI us]
theorem r_impl_ValidShape_11 (ns : List NodeD) (us : List Int) (n i p : Int) (cs : List Int) (m j : Int) (Kn5 : Fr → Heap → Prop) (Kn : Fr → Heap → Prop) (K : V → Heap → Prop) : round c_impl_ValidShape ⟨[1,3,4,20,21,44,45,46],2,false⟩ (pathB c_impl_ValidShape [5, 11] (bodyOf Try.f33)) (fr_impl_ValidShape_11 ns us n i p cs m j) (hp_impl_ValidShape_11 ns us n i p cs m j) Kn (pathK c_impl_ValidShape [(5, ⟨[1,3,20,21],2,false⟩, Kn5)] 11 (bodyOf Try.f33) (kFn c_impl_ValidShape Try.f33 [] K)) =
  cond (decide (j < m))
    (cond (decide (0 ≤ j))
      ((match cs[Int.toNat j]? with
        | some y0 => cond (!inR y0 0 (IntKind.wrap IntKind.i64 (p - 1)))
          (K (.bool false) [])
          (cond (decide (0 ≤ y0) && Nat.blt (Int.toNat y0) (List.length us))
            ((match us[Int.toNat y0]? with
              | some x1 => cond (decide (0 ≤ y0) && Nat.blt (Int.toNat y0) (List.length us))
                ((match us[Int.toNat y0]? with
                  | some x2 => Kn [(1, (.ptr 0 0)), (3, (.obj 1 0)), (4, (.int .i64 (p))), (20, (.int .i64 (n))), (21, (.int .i64 (i))), (44, (.vec (.int .i64) (cs))), (45, (.int .i64 (m))), (46, (.int .i64 (IntKind.wrap IntKind.i64 (j + 1))))] [(.box [(.vec tN (ns))]), (.sl 0 (.int .i64) (List.set us (Int.toNat y0) (IntKind.wrap IntKind.i64 (x1 + 1))))]
                  | none => False))
                (False)
              | none => False))
            (False))
        | none => False))
      (False))
    (Kn5 [(1, (.ptr 0 0)), (3, (.obj 1 0)), (20, (.int .i64 (n))), (21, (.int .i64 (IntKind.wrap IntKind.i64 (i + 1))))] [(.box [(.vec tN (ns))]), (.sl 0 (.int .i64) (us))]) := by kernel_rfl
theorem w_impl_ValidShape (ns : List NodeD) (K : V → Heap → Prop) : wpFn c_impl_ValidShape Try.f33 (encAs [.agg (.slice tN)] (ns, ())) [] K =
 cond (!inR (↑(List.length ns) : Int) 1 16)
 (K (.bool false) [])
 (cond (decide (0 ≤ (↑(List.length ns) : Int)) && (decide ((↑(List.length ns) : Int) ≤ (↑(List.length ns) : Int)) && decide ((↑8 : Int) * (↑(List.length ns) : Int) ≤ 281474976710656)))
 (LoopE c_impl_ValidShape ⟨[1, 3, 20, 21], 2, false⟩ (lb c_impl_ValidShape 5 Try.f33) [(1, (.ptr 0 0)), (3, (.obj 1 0)), (20, (.int .i64 ((↑(List.length ns) : Int)))), (21, (.int .i64 0))] [(.box [(.vec tN (ns))]), (.sl 0 (.int .i64) (List.replicate (Int.toNat (↑(List.length ns) : Int)) 0))] (lk c_impl_ValidShape 5 Try.f33 [] K))
 (False)) := by kernel_rfl
noncomputable def s_impl_ValidShape : Sm := semT [.agg (.slice tN)] fun x => match x with | (ns, _) => .bool (validS ns)
theorem ok_impl_ValidShape : FnOk Try.prog 33 s_impl_ValidShape := fnOk_typed (fnOk_runC (C := c_impl_ValidShape) rfl mixed (.cons ok_impl_in (.cons ok_impl_numbersOk (.cons ok_impl_axisOk (.cons ok_impl_childrenOf (.cons ok_slices_ContainsFunc__int_vone .nil))))) .nil .nil Try.func33 (by kernel_rfl)) fun (x : ((List NodeD) × Unit)) wf K h => by
  obtain ⟨ns, ⟨⟩⟩ := x
  replace h : K (.bool (validS ns)) [] := h
  rw [w_impl_ValidShape ns K]
  cases hin : inR (ns.length : Int) 1 16 with
  | false =>
    have : validS ns = false := by unfold validS; rw [hin]; rfl
    rw [this] at h
    exact h
  | true =>
    have hr := inR_iff.1 hin
    simp only [Bool.not_true, cond_false, Int.toNat_natCast]
    have e8 : 8 * (ns.length : Int) ≤ 281474976710656 := by omega
    simp only [d_0, Int.le_refl, decide_true, e8, Bool.and_self, cond_true]
    refine loop_run (σ := Nat) (fun i => fr_impl_ValidShape_5 ns [] ns.length i) (fun i => hp_impl_ValidShape_5 ns (usesAt ns i) ns.length i) (fun i => i ≤ ns.length ∧ OkUp ns i) (fun i => ns.length - i) ?_ 0 ⟨Nat.zero_le _, fun j n hj => by omega⟩
    intro i hi Kn5 hk5
    obtain ⟨u1, u2, u3⟩ := uses_facts i hi.1 hi.2
    rw [show fr_impl_ValidShape_5 ns [] ns.length i = fr_impl_ValidShape_5 ns (usesAt ns i) ns.length i from rfl, r_impl_ValidShape_5 ns (usesAt ns i) ns.length i Kn5 K]
    by_cases hlt : i < ns.length
    · simp only [d_lt hlt, d_0, cond_true, Int.toNat_natCast, get_lt hlt]
      generalize hy : ns[i]'hlt = y
      obtain ⟨k, a, b, xs⟩ := y
      have no : nodeB i (k, a, b, xs) = false → K (.bool false) [] := fun e => by
        rw [valid_no hlt (by rw [hy]; exact e)] at h
        exact h
      cases e1 : numsB k xs with
      | false => exact no (by unfold nodeB; simp only [e1, Bool.false_and])
      | true =>
        simp only [Bool.not_true, cond_false]
        cases e2 : axB k a b with
        | false => exact no (by unfold nodeB; simp only [e1, e2, Bool.false_and, Bool.and_false])
        | true =>
          simp only [Bool.not_true, cond_false]
          refine loop_run (σ := Nat) (fun j => fr_impl_ValidShape_11 ns [] ns.length i i (kids k a b) (kids k a b).length j) (fun j => hp_impl_ValidShape_11 ns (incs (usesAt ns i) ((kids k a b).take j)) 0 0 0 [] 0 0) (fun j => j ≤ (kids k a b).length ∧ ∀ c ∈ (kids k a b).take j, 0 ≤ c ∧ c < (i : Int)) (fun j => (kids k a b).length - j) ?_ 0 ⟨Nat.zero_le _, by simp⟩
          intro j hj Kn hk
          have hk2 : (kids k a b).length ≤ 2 := kids_len (k, a, b, xs)
          obtain ⟨v1, v2, v3⟩ := incs_facts (i := i) ((kids k a b).take j) (u := usesAt ns i) (B := 2 * (i : Int)) (fun c hc => hj.2 c hc) u2 (by omega)
          rw [show fr_impl_ValidShape_11 ns [] ns.length i i (kids k a b) (kids k a b).length j = fr_impl_ValidShape_11 ns (incs (usesAt ns i) ((kids k a b).take j)) ns.length i i (kids k a b) (kids k a b).length j from rfl,
            show hp_impl_ValidShape_11 ns (incs (usesAt ns i) ((kids k a b).take j)) 0 0 0 [] 0 0 = hp_impl_ValidShape_11 ns (incs (usesAt ns i) ((kids k a b).take j)) ns.length i i (kids k a b) (kids k a b).length j from rfl,
            r_impl_ValidShape_11 ns (incs (usesAt ns i) ((kids k a b).take j)) ns.length i i (kids k a b) (kids k a b).length j Kn5 Kn K]
          by_cases hjl : j < (kids k a b).length
          · simp only [d_lt hjl, d_0, cond_true, Int.toNat_natCast, get_lt hjl]
            rw [i64_of (n := (i : Int) - 1) (by omega) (by omega)]
            generalize hc : (kids k a b)[j]'hjl = c
            cases e3 : inR c 0 ((i : Int) - 1) with
            | false =>
              refine no ?_
              have : (kidsN (k, a, b, xs)).all (fun c => inR c 0 ((i : Int) - 1)) = false := List.all_eq_false.2 ⟨c, by rw [← hc]; exact List.getElem_mem hjl, by rw [e3]; simp⟩
              unfold nodeB
              rw [this, Bool.and_false, Bool.and_false]
            | true =>
              have hcr := inR_iff.1 e3
              have hcl : c.toNat < (incs (usesAt ns i) ((kids k a b).take j)).length := by rw [v1, u1]; omega
              simp only [Bool.not_true, cond_false, d_t hcr.1, blt_t hcl, Bool.and_self, cond_true, get_lt hcl]
              have hx := v2 _ (List.getElem_mem hcl)
              have hjt : ((kids k a b).take j).length ≤ 2 := by rw [List.length_take]; omega
              rw [i64_of (n := (incs (usesAt ns i) ((kids k a b).take j))[c.toNat]'hcl + 1) (by omega) (by omega), i64_of (by omega) (by omega)]
              have := hk (j + 1) ⟨hjl, fun c' hc' => by
                rw [take_one hjl, List.mem_append] at hc'
                rcases hc' with hc' | hc'
                · exact hj.2 c' hc'
                · rw [List.mem_singleton, hc] at hc'; omega⟩ (by omega)
              rw [show hp_impl_ValidShape_11 ns (incs (usesAt ns i) ((kids k a b).take (j + 1))) 0 0 0 [] 0 0 = [.box [.vec tN ns], .sl 0 tI ((incs (usesAt ns i) ((kids k a b).take j)).set c.toNat ((incs (usesAt ns i) ((kids k a b).take j))[c.toNat]'hcl + 1))] by
                rw [incs_take _ hjl, hc]
                unfold inc1
                rw [get_lt hcl]
                rfl] at this
              exact this
          · simp only [d_nlt hjl, cond_false]
            rw [i64_of (by omega) (by omega)]
            have hall : (kids k a b).take j = kids k a b := List.take_of_length_le (by omega)
            have hn : nodeB i (k, a, b, xs) = true := by
              unfold nodeB
              rw [e1, e2, Bool.true_and, Bool.true_and]
              refine List.all_eq_true.2 fun c hc => inR_iff.2 ?_
              have := hj.2 c (by rw [hall]; exact hc)
              omega
            have := hk5 (i + 1) ⟨hlt, okUp_succ hlt hi.2 (by rw [hy]; exact hn)⟩ (by omega)
            rw [show hp_impl_ValidShape_5 ns (usesAt ns (i + 1)) ns.length ((i + 1 : Nat) : Int) = [.box [.vec tN ns], .sl 0 tI (incs (usesAt ns i) ((kids k a b).take j))] by
              rw [usesAt_succ hlt, hy, hall]; rfl] at this
            exact this
    · have : i = ns.length := by omega
      subst this
      simp only [d_nlt hlt, cond_false]
      rw [u1, i64_of (n := (ns.length : Int) - 1) (by omega) (by omega), show ((ns.length : Int) - 1).toNat = ns.length - 1 by omega]
      have hl : ns.length - 1 < (usesAt ns ns.length).length := by rw [u1]; omega
      have h0 := u3 (ns.length - 1) _ (by omega) (get_lt hl)
      rw [u1] at hl
      simp only [d_t (show (0 : Int) ≤ (ns.length : Int) - 1 by omega), blt_t hl, Bool.and_self, cond_true]
      rw [get_lt (by rw [u1]; exact hl), h0]
      simp only [beq_self_eq_true, cond_true, d_t (show (0 : Int) ≤ 0 by decide), d_t (show (ns.length : Int) - 1 ≤ (ns.length : Int) by omega), Bool.and_self, List.drop_zero]
      rw [all_one, ← valid_last hin hi.2]
      exact h

noncomputable def c_spec_l02Count : Ctx := mkC Try.prog tyT [] [] [] 21 (fun _ => none) 0
theorem w_spec_l02Count (k : Int) (K : V → Heap → Prop) : wpFn c_spec_l02Count Try.f129 (encAs [.cell tI] (k, ())) [] K =
 cond (k == 0)
 (cond (k == 0)
 (K (.int .i64 1) [])
 (cond (k == 2)
 (cond (k == 2)
 (K (.int .i64 2) [])
 (cond (k == 1)
 (cond (k == 1)
 (K (.int .i64 3) [])
 (cond (k == 4)
 (K (.int .i64 4) [])
 (K (.int .i64 0) [])))
 (cond (k == 9)
 (cond (k == 9)
 (K (.int .i64 3) [])
 (cond (k == 4)
 (K (.int .i64 4) [])
 (K (.int .i64 0) [])))
 (cond (k == 11)
 (K (.int .i64 3) [])
 (cond (k == 4)
 (K (.int .i64 4) [])
 (K (.int .i64 0) []))))))
 (cond (k == 3)
 (K (.int .i64 2) [])
 (cond (k == 1)
 (cond (k == 1)
 (K (.int .i64 3) [])
 (cond (k == 4)
 (K (.int .i64 4) [])
 (K (.int .i64 0) [])))
 (cond (k == 9)
 (cond (k == 9)
 (K (.int .i64 3) [])
 (cond (k == 4)
 (K (.int .i64 4) [])
 (K (.int .i64 0) [])))
 (cond (k == 11)
 (K (.int .i64 3) [])
 (cond (k == 4)
 (K (.int .i64 4) [])
 (K (.int .i64 0) []))))))))
 (cond (k == 8)
 (cond (k == 8)
 (K (.int .i64 1) [])
 (cond (k == 2)
 (cond (k == 2)
 (K (.int .i64 2) [])
 (cond (k == 1)
 (cond (k == 1)
 (K (.int .i64 3) [])
 (cond (k == 4)
 (K (.int .i64 4) [])
 (K (.int .i64 0) [])))
 (cond (k == 9)
 (cond (k == 9)
 (K (.int .i64 3) [])
 (cond (k == 4)
 (K (.int .i64 4) [])
 (K (.int .i64 0) [])))
 (cond (k == 11)
 (K (.int .i64 3) [])
 (cond (k == 4)
 (K (.int .i64 4) [])
 (K (.int .i64 0) []))))))
 (cond (k == 3)
 (K (.int .i64 2) [])
 (cond (k == 1)
 (cond (k == 1)
 (K (.int .i64 3) [])
 (cond (k == 4)
 (K (.int .i64 4) [])
 (K (.int .i64 0) [])))
 (cond (k == 9)
 (cond (k == 9)
 (K (.int .i64 3) [])
 (cond (k == 4)
 (K (.int .i64 4) [])
 (K (.int .i64 0) [])))
 (cond (k == 11)
 (K (.int .i64 3) [])
 (cond (k == 4)
 (K (.int .i64 4) [])
 (K (.int .i64 0) []))))))))
 (cond (k == 10)
 (cond (k == 10)
 (K (.int .i64 1) [])
 (cond (k == 2)
 (cond (k == 2)
 (K (.int .i64 2) [])
 (cond (k == 1)
 (cond (k == 1)
 (K (.int .i64 3) [])
 (cond (k == 4)
 (K (.int .i64 4) [])
 (K (.int .i64 0) [])))
 (cond (k == 9)
 (cond (k == 9)
 (K (.int .i64 3) [])
 (cond (k == 4)
 (K (.int .i64 4) [])
 (K (.int .i64 0) [])))
 (cond (k == 11)
 (K (.int .i64 3) [])
 (cond (k == 4)
 (K (.int .i64 4) [])
 (K (.int .i64 0) []))))))
 (cond (k == 3)
 (K (.int .i64 2) [])
 (cond (k == 1)
 (cond (k == 1)
 (K (.int .i64 3) [])
 (cond (k == 4)
 (K (.int .i64 4) [])
 (K (.int .i64 0) [])))
 (cond (k == 9)
 (cond (k == 9)
 (K (.int .i64 3) [])
 (cond (k == 4)
 (K (.int .i64 4) [])
 (K (.int .i64 0) [])))
 (cond (k == 11)
 (K (.int .i64 3) [])
 (cond (k == 4)
 (K (.int .i64 4) [])
 (K (.int .i64 0) []))))))))
 (cond (k == 12)
 (cond (k == 12)
 (K (.int .i64 1) [])
 (cond (k == 2)
 (cond (k == 2)
 (K (.int .i64 2) [])
 (cond (k == 1)
 (cond (k == 1)
 (K (.int .i64 3) [])
 (cond (k == 4)
 (K (.int .i64 4) [])
 (K (.int .i64 0) [])))
 (cond (k == 9)
 (cond (k == 9)
 (K (.int .i64 3) [])
 (cond (k == 4)
 (K (.int .i64 4) [])
 (K (.int .i64 0) [])))
 (cond (k == 11)
 (K (.int .i64 3) [])
 (cond (k == 4)
 (K (.int .i64 4) [])
 (K (.int .i64 0) []))))))
 (cond (k == 3)
 (K (.int .i64 2) [])
 (cond (k == 1)
 (cond (k == 1)
 (K (.int .i64 3) [])
 (cond (k == 4)
 (K (.int .i64 4) [])
 (K (.int .i64 0) [])))
 (cond (k == 9)
 (cond (k == 9)
 (K (.int .i64 3) [])
 (cond (k == 4)
 (K (.int .i64 4) [])
 (K (.int .i64 0) [])))
 (cond (k == 11)
 (K (.int .i64 3) [])
 (cond (k == 4)
 (K (.int .i64 4) [])
 (K (.int .i64 0) []))))))))
 (cond (k == 14)
 (cond (k == 14)
 (K (.int .i64 1) [])
 (cond (k == 2)
 (cond (k == 2)
 (K (.int .i64 2) [])
 (cond (k == 1)
 (cond (k == 1)
 (K (.int .i64 3) [])
 (cond (k == 4)
 (K (.int .i64 4) [])
 (K (.int .i64 0) [])))
 (cond (k == 9)
 (cond (k == 9)
 (K (.int .i64 3) [])
 (cond (k == 4)
 (K (.int .i64 4) [])
 (K (.int .i64 0) [])))
 (cond (k == 11)
 (K (.int .i64 3) [])
 (cond (k == 4)
 (K (.int .i64 4) [])
 (K (.int .i64 0) []))))))
 (cond (k == 3)
 (K (.int .i64 2) [])
 (cond (k == 1)
 (cond (k == 1)
 (K (.int .i64 3) [])
 (cond (k == 4)
 (K (.int .i64 4) [])
 (K (.int .i64 0) [])))
 (cond (k == 9)
 (cond (k == 9)
 (K (.int .i64 3) [])
 (cond (k == 4)
 (K (.int .i64 4) [])
 (K (.int .i64 0) [])))
 (cond (k == 11)
 (K (.int .i64 3) [])
 (cond (k == 4)
 (K (.int .i64 4) [])
 (K (.int .i64 0) []))))))))
 (cond (k == 15)
 (cond (k == 15)
 (K (.int .i64 1) [])
 (cond (k == 2)
 (cond (k == 2)
 (K (.int .i64 2) [])
 (cond (k == 1)
 (cond (k == 1)
 (K (.int .i64 3) [])
 (cond (k == 4)
 (K (.int .i64 4) [])
 (K (.int .i64 0) [])))
 (cond (k == 9)
 (cond (k == 9)
 (K (.int .i64 3) [])
 (cond (k == 4)
 (K (.int .i64 4) [])
 (K (.int .i64 0) [])))
 (cond (k == 11)
 (K (.int .i64 3) [])
 (cond (k == 4)
 (K (.int .i64 4) [])
 (K (.int .i64 0) []))))))
 (cond (k == 3)
 (K (.int .i64 2) [])
 (cond (k == 1)
 (cond (k == 1)
 (K (.int .i64 3) [])
 (cond (k == 4)
 (K (.int .i64 4) [])
 (K (.int .i64 0) [])))
 (cond (k == 9)
 (cond (k == 9)
 (K (.int .i64 3) [])
 (cond (k == 4)
 (K (.int .i64 4) [])
 (K (.int .i64 0) [])))
 (cond (k == 11)
 (K (.int .i64 3) [])
 (cond (k == 4)
 (K (.int .i64 4) [])
 (K (.int .i64 0) []))))))))
 (cond (k == 16)
 (K (.int .i64 1) [])
 (cond (k == 2)
 (cond (k == 2)
 (K (.int .i64 2) [])
 (cond (k == 1)
 (cond (k == 1)
 (K (.int .i64 3) [])
 (cond (k == 4)
 (K (.int .i64 4) [])
 (K (.int .i64 0) [])))
 (cond (k == 9)
 (cond (k == 9)
 (K (.int .i64 3) [])
 (cond (k == 4)
 (K (.int .i64 4) [])
 (K (.int .i64 0) [])))
 (cond (k == 11)
 (K (.int .i64 3) [])
 (cond (k == 4)
 (K (.int .i64 4) [])
 (K (.int .i64 0) []))))))
 (cond (k == 3)
 (K (.int .i64 2) [])
 (cond (k == 1)
 (cond (k == 1)
 (K (.int .i64 3) [])
 (cond (k == 4)
 (K (.int .i64 4) [])
 (K (.int .i64 0) [])))
 (cond (k == 9)
 (cond (k == 9)
 (K (.int .i64 3) [])
 (cond (k == 4)
 (K (.int .i64 4) [])
 (K (.int .i64 0) [])))
 (cond (k == 11)
 (K (.int .i64 3) [])
 (cond (k == 4)
 (K (.int .i64 4) [])
 (K (.int .i64 0) []))))))))))))) := by kernel_rfl
noncomputable def s_spec_l02Count : Sm := semT [.cell tI] fun x => match x with | (k, _) => .int .i64 (kindN k)
theorem ok_spec_l02Count : FnOk Try.prog 129 s_spec_l02Count := fnOk_typed (fnOk_runC (C := c_spec_l02Count) rfl mixed .nil .nil .nil Try.func129 (by kernel_rfl)) fun (x : ((Int) × Unit)) wf K h => by
  obtain ⟨k, ⟨⟩⟩ := x
  replace h : K (.int .i64 (kindN k)) [] := h
  rw [w_spec_l02Count k K]
  cases hk : isK k with
  | true =>
    rcases kinds hk with e | e | e | e | e | e | e | e | e | e | e | e | e | e | e | e | e <;> subst e <;> exact h
  | false =>
    simp only [kindN, kindC, kindA, kindS, kindV_no hk] at h
    simp only [isK_ne hk (j := 0) (by decide), isK_ne hk (j := 1) (by decide), isK_ne hk (j := 2) (by decide), isK_ne hk (j := 3) (by decide), isK_ne hk (j := 4) (by decide), isK_ne hk (j := 5) (by decide), isK_ne hk (j := 6) (by decide), isK_ne hk (j := 7) (by decide), isK_ne hk (j := 8) (by decide), isK_ne hk (j := 9) (by decide), isK_ne hk (j := 10) (by decide), isK_ne hk (j := 11) (by decide), isK_ne hk (j := 12) (by decide), isK_ne hk (j := 13) (by decide), isK_ne hk (j := 14) (by decide), isK_ne hk (j := 15) (by decide), isK_ne hk (j := 16) (by decide), cond_false]
    exact h

noncomputable def c_spec_l02Axis : Ctx := mkC Try.prog tyT [(169, s_spec_l00In)] [] [] 5 (fun _ => none) 0
theorem w_spec_l02Axis (k : Int) (K : V → Heap → Prop) : wpFn c_spec_l02Axis Try.f158 (encAs [.cell tI] (k, ())) [] K =
 K (.bool (inR k 12 14)) [] := by kernel_rfl
noncomputable def s_spec_l02Axis : Sm := semT [.cell tI] fun x => match x with | (k, _) => .bool (inR k 12 14)
theorem ok_spec_l02Axis : FnOk Try.prog 158 s_spec_l02Axis := fnOk_typed (fnOk_runC (C := c_spec_l02Axis) rfl mixed (.cons ok_spec_l00In .nil) .nil .nil Try.func158 (by kernel_rfl)) fun (x : ((Int) × Unit)) wf K h => by
  obtain ⟨k, ⟨⟩⟩ := x
  replace h : K (.bool (inR k 12 14)) [] := h
  rw [w_spec_l02Axis k K]
  exact h

noncomputable def c_spec_l01Finite : Ctx := mkC Try.prog tyT [] [] [] 7 (fun _ => none) 0
theorem w_spec_l01Finite (x : Nat) (K : V → Heap → Prop) : wpFn c_spec_l01Finite Try.f152 (encAs [.cell tF] (x, ())) [] K =
 K (.bool (feq FloatKind.f32 (fsub FloatKind.f32 x x) 0)) [] := by kernel_rfl
noncomputable def s_spec_l01Finite : Sm := semT [.cell tF] fun x => match x with | (x, _) => .bool (finN x)
theorem ok_spec_l01Finite : FnOk Try.prog 152 s_spec_l01Finite := fnOk_typed (fnOk_runC (C := c_spec_l01Finite) rfl mixed .nil .nil .nil Try.func152 (by kernel_rfl)) fun (x : ((Nat) × Unit)) wf K h => by
  obtain ⟨x, ⟨⟩⟩ := x
  replace h : K (.bool (finN x)) [] := h
  rw [w_spec_l01Finite x K]
  exact h




end Go.Proofs.Ytfhpmcdbfebflaa

/- Shapes and lists of shapes, as the laws copy, count and compare them. -/
set_option linter.unusedVariables false
set_option linter.unusedSimpArgs false
set_option maxRecDepth 100000
namespace Go.Proofs.Ytfhpmcdbfebflaa
open Go.Ev

abbrev tS : Ty := .slice tN
abbrev ShapeD := List NodeD
end Go.Proofs.Ytfhpmcdbfebflaa

