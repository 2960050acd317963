/- Results that a call hands over to its caller. -/
import Derived.Test.YtfdalaakechldaaEvOwn
set_option linter.unusedVariables false
set_option linter.unusedSimpArgs false
namespace Go.Ev

section
variable {g : List G} {M : Mem} {w w0 : World} {M0 : Mem} {own0 : Z} {H : Heap}
theorem snoc_cases {H : Heap} {g : List G} (hlen : H.length = g.length) {o0 o : Ob} {x0 x : G} {j : Nat} (h1 : (H ++ [o0])[j]? = some o) (h2 : (g ++ [x0])[j]? = some x) :
    (j < H.length ∧ H[j]? = some o ∧ g[j]? = some x) ∨ (j = H.length ∧ o = o0 ∧ x = x0) := by
  rw [getElem?_snoc] at h1 h2
  rw [← hlen] at h2
  split at h1
  · rename_i hl; rw [if_pos hl] at h2; exact .inl ⟨hl, h1, h2⟩
  · rename_i hl
    rw [if_neg hl] at h2
    split at h1
    · rename_i he; rw [if_pos he] at h2; cases h1; cases h2; exact .inr ⟨he, rfl, rfl⟩
    · cases h1
/-- A nil slice is owned by anybody. -/
theorem push_nil (hr : HR H g M w) (hb : Base w0 M0 own0 H g M w) {e : Ty} (he : 0 < e.size) :
    HR (H ++ [.sl 0 e []]) (g ++ [.sl (.slice none 0 0) 0 e.size]) M w ∧ Base w0 M0 own0 (H ++ [.sl 0 e []]) (g ++ [.sl (.slice none 0 0) 0 e.size]) M w := by
  have hE := Ext.snoc g M (.sl (.slice none 0 0) 0 e.size)
  refine ⟨⟨by simp [hr.len], ?_, ?_, hr.mem⟩, ⟨hb.size, hb.keep, ?_, hb.mle, hb.mnew, hb.os, hb.tape, hb.output, fun j b hj => ?_⟩⟩
  · intro j o z p1 p2
    rcases snoc_cases hr.len p1 p2 with ⟨_, q1, q2⟩ | ⟨_, rfl, rfl⟩
    · exact (hr.ob j o z q1 q2).mono hE fun _ _ => rfl
    · simp only [ObOk]
      exact ⟨trivial, trivial, ⟨he, by simp⟩, .inl ⟨trivial, trivial⟩⟩
  · intro j j' o o' z z' b p1 p2 p3 p4 p5 p6
    rcases snoc_cases hr.len p1 p2 with ⟨_, q1, q2⟩ | ⟨_, rfl, rfl⟩
    · rcases snoc_cases hr.len p3 p4 with ⟨_, q3, q4⟩ | ⟨_, rfl, rfl⟩
      · exact hr.apart j j' o o' z z' b q1 q2 q3 q4 p5 p6
      · simp [ownB] at p6
    · simp [ownB] at p5
  · rintro b ⟨j, o, z, p1, p2, p3⟩
    rcases snoc_cases hr.len p1 p2 with ⟨_, q1, q2⟩ | ⟨_, rfl, rfl⟩
    · exact hb.own b ⟨j, o, z, q1, q2, p3⟩
    · simp [ownB] at p3
  · have := hb.gbox j b hj
    rw [List.getElem?_append_left (lt_of_get this)]; exact this

theorem push_niD (hr : HR H g M w) (hb : Base w0 M0 own0 H g M w) {e : Ty} (he : 0 < e.size) :
    HR (H ++ [.dp 0 0 e []]) (g ++ [.dp (.slice none 0 0) 0 0 e.size [] (fun _ => Go.undef)]) M w ∧ Base w0 M0 own0 (H ++ [.dp 0 0 e []]) (g ++ [.dp (.slice none 0 0) 0 0 e.size [] (fun _ => Go.undef)]) M w := by
  have hfinal := adopt_push (L := []) (w' := w) (o' := .dp 0 0 e []) (x' := .dp (.slice none 0 0) 0 0 e.size [] (fun _ => Go.undef)) hr hb (Nat.le_refl _) rfl rfl rfl (fun _ _ _ => rfl) (by
    simp only [ObOk]
    refine ⟨⟨trivial, trivial, trivial⟩, ⟨_, rfl, Nat.zero_le _, he, .inl ⟨rfl, rfl, rfl⟩⟩, .nil, by simp, ?_⟩
    intro b n cap c T fz e'
    cases e') (fun b hb' => by cases hb')
  exact ⟨hfinal.1, hfinal.2.1⟩

theorem give1_sound {H' : Heap} {p : Option Ty} (hr : HR H g M w) (hb : Base w0 M0 own0 H g M w) {v v' : V} {c : Value} (hv : VR g M v c) (h : give1 p H v = some (H', v')) :
    ∃ g' M', HR H' g' M' w ∧ Base w0 M0 own0 H' g' M' w ∧ Ext g M g' M' ∧ (∀ (id : Nat) (x : G), g[id]? = some x → g'[id]? = some x) ∧ VR g' M' v' c := by
  unfold give1 at h
  split at h
  · obtain ⟨M', h1, h2, h3, h4⟩ := freeze1_sound hr hb hv h
    exact ⟨g, M', h1, h2, Ext.mem h3, fun _ _ h => h, h4⟩
  · rename_i e0
    generalize wantE e0 = q at h
    obtain ⟨e, fl⟩ := q
    simp only at h
    split at h
    · cases hs : Nat.blt 0 e.size with
      | false => rw [hs] at h; cases h
      | true =>
        rw [hs] at h
        cases fl with
        | true =>
          simp only [cond_true, cond_false] at h
          cases h
          cases hv
          obtain ⟨h1, h2⟩ := push_nil hr hb (by rw [Nat.blt_eq] at hs; exact hs)
          refine ⟨_, M, h1, h2, Ext.snoc _ _ _, fun id x hx => by rw [List.getElem?_append_left (lt_of_get hx)]; exact hx, ?_⟩
          exact .obj _ 0 0 e.size (.slice none 0 0) _ (by rw [hr.len, List.getElem?_append_right (Nat.le_refl _)]; simp) (Nat.le_refl _) (fun _ => rfl) rfl
        | false =>
          simp only [cond_true, cond_false] at h
          cases h
          cases hv
          obtain ⟨h1, h2⟩ := push_niD hr hb (by rw [Nat.blt_eq] at hs; exact hs)
          refine ⟨_, M, h1, h2, Ext.snoc _ _ _, fun id x hx => by rw [List.getElem?_append_left (lt_of_get hx)]; exact hx, ?_⟩
          exact .dob _ 0 0 0 e.size [] _ (.slice none 0 0) _ (by rw [hr.len, List.getElem?_append_right (Nat.le_refl _), Nat.sub_self]; rfl) (Nat.le_refl _) (fun _ => rfl) rfl
    · cases h
      exact ⟨g, M, hr, hb, Ext.refl _ _, fun _ _ h => h, hv⟩

theorem gives1_sound : ∀ {ps : List (Option Ty)} {g : List G} {M : Mem} {H H' : Heap} (_ : HR H g M w) (_ : Base w0 M0 own0 H g M w) {vs vs' : List V} {cs : List Value} (_ : VRs g M vs cs) (_ : gives1 ps H vs = some (H', vs')),
    ∃ g' M', HR H' g' M' w ∧ Base w0 M0 own0 H' g' M' w ∧ Ext g M g' M' ∧ (∀ (id : Nat) (x : G), g[id]? = some x → g'[id]? = some x) ∧ VRs g' M' vs' cs
  | [], g, M, H, H', hr, hb, [], _, _, .nil, h => by simp only [gives1] at h; cases h; exact ⟨g, M, hr, hb, Ext.refl _ _, fun _ _ h => h, .nil⟩
  | [], _, _, _, _, _, _, _ :: _, _, _, _, h => by simp only [gives1] at h; cases h
  | _ :: _, _, _, _, _, _, _, [], _, _, _, h => by simp only [gives1] at h; cases h
  | p :: ps, g, M, H, H', hr, hb, v :: vs, _, _, .cons hv hs, h => by
    simp only [gives1] at h
    split at h
    · rename_i H1 v1 e1
      split at h
      · rename_i H2 vs2 e2
        cases h
        obtain ⟨g1, M1, p1, p2, p3, p4, p5⟩ := give1_sound hr hb hv e1
        obtain ⟨g2, M2, q1, q2, q3, q4, q5⟩ := gives1_sound p1 p2 (hs.mono p3) e2
        exact ⟨g2, M2, q1, q2, p3.trans q3, fun id x hx => q4 _ _ (p4 _ _ hx), .cons (p5.mono q3) q5⟩
      · cases h
    · cases h

theorem give2_sound {ps : List (Option Ty)} {H' : Heap} (hr : HR H g M w) (hb : Base w0 M0 own0 H g M w) {v v' : V} {c : Value} (hv : VR g M v c) (h : give2 ps H v = some (H', v')) :
    ∃ g' M', HR H' g' M' w ∧ Base w0 M0 own0 H' g' M' w ∧ Ext g M g' M' ∧ (∀ (id : Nat) (x : G), g[id]? = some x → g'[id]? = some x) ∧ VR g' M' v' c := by
  have one' : ∀ {u : V}, VR g M u c → giveO ps H u = some (H', v') → ∃ g' M', HR H' g' M' w ∧ Base w0 M0 own0 H' g' M' w ∧ Ext g M g' M' ∧ (∀ (id : Nat) (x : G), g[id]? = some x → g'[id]? = some x) ∧ VR g' M' v' c := by
    intro u hu h
    unfold giveO at h
    split at h
    · exact give1_sound hr hb hu h
    · cases h
  cases v <;> simp only [give2] at h <;> try exact one' hv h
  split at h
  · rename_i H1 vs1 e1
    cases h
    cases hv with
    | agg _ cs hvs =>
      obtain ⟨g', M', p1, p2, p3, p4, p5⟩ := gives1_sound hr hb hvs e1
      exact ⟨g', M', p1, p2, p3, p4, .agg _ cs p5⟩
  · cases h

theorem gives2_sound : ∀ {ps : List (List (Option Ty))} {g : List G} {M : Mem} {H H' : Heap} (_ : HR H g M w) (_ : Base w0 M0 own0 H g M w) {vs vs' : List V} {cs : List Value} (_ : VRs g M vs cs) (_ : gives2 ps H vs = some (H', vs')),
    ∃ g' M', HR H' g' M' w ∧ Base w0 M0 own0 H' g' M' w ∧ Ext g M g' M' ∧ (∀ (id : Nat) (x : G), g[id]? = some x → g'[id]? = some x) ∧ VRs g' M' vs' cs
  | [], g, M, H, H', hr, hb, [], _, _, .nil, h => by simp only [gives2] at h; cases h; exact ⟨g, M, hr, hb, Ext.refl _ _, fun _ _ h => h, .nil⟩
  | [], _, _, _, _, _, _, _ :: _, _, _, _, h => by simp only [gives2] at h; cases h
  | _ :: _, _, _, _, _, _, _, [], _, _, _, h => by simp only [gives2] at h; cases h
  | p :: ps, g, M, H, H', hr, hb, v :: vs, _, _, .cons hv hs, h => by
    simp only [gives2] at h
    split at h
    · rename_i H1 v1 e1
      split at h
      · rename_i H2 vs2 e2
        cases h
        obtain ⟨g1, M1, p1, p2, p3, p4, p5⟩ := give2_sound hr hb hv e1
        obtain ⟨g2, M2, q1, q2, q3, q4, q5⟩ := gives2_sound p1 p2 (hs.mono p3) e2
        exact ⟨g2, M2, q1, q2, p3.trans q3, fun id x hx => q4 _ _ (p4 _ _ hx), .cons (p5.mono q3) q5⟩
      · cases h
    · cases h

theorem addVs_ok {keep n : Nat} : ∀ (vs : List V) {L : List Nat}, KOk keep n L → KOk keep n (addVs n L vs)
  | [], _, h => h
  | v :: r, L, h => by
    unfold addVs
    split
    · rename_i e; cases e
    · rename_i us r' e; cases e; exact addVs_ok _ (foldl_addV_ok us h)
    · rename_i e; cases e; exact addVs_ok _ (addV_ok h _)
theorem leftL_ok (m : Nat) (H : Heap) (vs : List V) : KOk m H.length (leftL m H vs) := addVs_ok vs (idsOf_ok H m)

theorem scrubA_sound (hr : HR H g M w) (L : List Nat) {v : V} {c : Value} (hv : VR g M v c) : VR (gNorm L g) M (scrubA H L v) c := by
  cases v <;> simp only [scrubA] <;> try exact scrub_sound hr L hv
  cases hv with
  | agg _ cs hvs => exact .agg _ cs (VRs_scrub hr L hvs)
theorem scrubAs_sound (hr : HR H g M w) (L : List Nat) : ∀ {vs : List V} {cs : List Value}, VRs g M vs cs → VRs (gNorm L g) M (vs.map (scrubA H L)) cs
  | _, _, .nil => .nil
  | _, _, .cons h t => .cons (scrubA_sound hr L h) (scrubAs_sound hr L t)
end

section
variable {P : Program} {C : Ctx}
theorem outG_ang (ps : List (List (Option Ty))) (m : Nat) (H : Heap) (vs : List V) {K : V → Heap → Prop} (h : outG ps m H vs K) : ∃ v H', K v H' ∧ ∀ K' : V → Heap → Prop, K' v H' → outG ps m H vs K' := by
  unfold outG at h ⊢
  split at h
  · exact ⟨_, _, h, fun _ h => h⟩
  · exact h.elim

theorem wpFnG_ang (hc : CallAng C) (hd : CallAng C.drawn) (ps : List (List (Option Ty))) (fn : Func) (args : List V) (hs : Heap) {K : V → Heap → Prop} (h : wpFnG ps C fn args hs K) : ∃ v H', K v H' ∧ ∀ K' : V → Heap → Prop, K' v H' → wpFnG ps C fn args hs K' := by
  unfold wpFnG at h
  cases hb : fn.body with
  | none => simp only [hb] at h
  | some body =>
    simp only [hb] at h
    cases hq : (Nat.ble args.length fn.ntmps && Nat.beq fn.ntmps C.ntmps && Nat.beq hs.length C.base && hs.all isBox) with
    | false => simp only [hq, cond_false] at h
    | true =>
      simp only [hq, cond_true] at h
      obtain ⟨e, fr, H, h1, h2⟩ := wpE_ang hc hd body _ _ _ h
      have fin : ∀ (F : (V → Heap → Prop) → Prop), F K → (F = fun K => bif Nat.ble hs.length H.length then resV C fr H fn.results.toList fun vs => outG ps hs.length H vs K else False) → ∃ v H', K v H' ∧ ∀ K' : V → Heap → Prop, K' v H' → F K' := by
        rintro F hF rfl
        cases hle : Nat.ble hs.length H.length with
        | false => simp only [hle, cond_false] at hF
        | true =>
          simp only [hle, cond_true] at hF ⊢
          obtain ⟨vs, h3, h4⟩ := resV_ang fr H _ _ hF
          obtain ⟨v, H', h5, h6⟩ := outG_ang ps _ H vs h3
          exact ⟨v, H', h5, fun K' h' => h4 _ (h6 K' h')⟩
      cases e with
      | exit id => exact h1.elim
      | normal =>
        obtain ⟨v, H', h5, h6⟩ := fin _ h1 rfl
        refine ⟨v, H', h5, fun K' h' => ?_⟩
        unfold wpFnG
        simp only [hb, hq, cond_true]
        exact h2 _ (h6 K' h')
      | ret =>
        obtain ⟨v, H', h5, h6⟩ := fin _ h1 rfl
        refine ⟨v, H', h5, fun K' h' => ?_⟩
        unfold wpFnG
        simp only [hb, hq, cond_true]
        exact h2 _ (h6 K' h')

/-- What the evaluator says of a body that hands over its results holds of the function. -/
theorem fnOkO_of_wpFnG (L : LOk P C) (hc : CallsOk0 P C) (hm : P.follows .mixedOrders = true) (ps : List (List (Option Ty))) {k : FuncId} {fn : Func} (hf : P.funcs[k]? = some fn) (hn : (fn.name == "runtime.NumGoroutine") = false) : FnOkO P k (wpFnG ps C fn) := by
  intro args hs K h
  obtain ⟨v, H1, h1, h2⟩ := wpFnG_ang hc.ang hc.drawn.ang ps fn args hs h
  refine ⟨v, H1, h1, h2, ?_⟩
  intro w g0 M cargs ha hr0 hG
  have hw := h2 (fun u hs => u = v ∧ hs = H1) ⟨rfl, rfl⟩
  unfold wpFnG at hw
  cases hb : fn.body with
  | none => simp only [hb] at hw
  | some body =>
    simp only [hb] at hw
    cases hq : (Nat.ble args.length fn.ntmps && Nat.beq fn.ntmps C.ntmps && Nat.beq hs.length C.base && hs.all isBox) with
    | false => simp only [hq, cond_false] at hw
    | true =>
      simp only [hq, cond_true] at hw
      refine (body_sound L hc hm hf hn hb hq (Kf := fun vs H => outG ps hs.length H vs fun u hs => u = v ∧ hs = H1) hw ha hr0 hG).mono ?_
      rintro val w' ⟨vs, vals, H', g, M', p1, p2, rfl, hle, hr, hbase, hgs, hfix⟩
      unfold outG at p1
      split at p1
      · rename_i H2 vs2 e2
        obtain ⟨rfl, rfl⟩ := p1
        obtain ⟨g2, M2, q1, q2, q3, q4, q5⟩ := gives2_sound hr hbase p2 e2
        have hk := leftL_ok hs.length H2 vs2
        obtain ⟨r1, r2⟩ := norm_hr hk (own0 := Z.of hs g0) (Nat.le_of_eq hr0.len.symm) q1 q2
        refine ⟨_, M2, tup_sound (scrubAs_sound q1 _ q5), r1, ⟨fun id x hx => ⟨x, r2.gbox id x ⟨hx, hfix id x hx⟩, Gle.refl x⟩, r2.mle⟩, r2⟩
      · exact p1.elim
end
end Go.Ev
