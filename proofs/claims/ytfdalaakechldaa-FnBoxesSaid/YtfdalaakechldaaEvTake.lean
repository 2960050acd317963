/- A call to which a thing is given away. -/
import Derived.Test.YtfdalaakechldaaEvFrame
set_option linter.unusedVariables false
set_option linter.unusedSimpArgs false
namespace Go.Ev

/-- What the caller gives away may be written, and has no name any more. -/
def Z.all (H : Heap) (g : List G) : Z := ⟨Own H g, fun _ _ => False, 0, fun _ _ h => h.elim, fun _ _ h => h.elim⟩

def FnTk (P : Program) (k : FuncId) (S : Sm) : Prop :=
  ∀ args H K, S args H K → ∃ v H', K v H' ∧ (∀ K' : V → Heap → Prop, K' v H' → S args H K') ∧
    ∀ (w : World) (g : List G) (M : Mem) (cargs : List Value), VRs g M args cargs → HR H g M w → GamOk P M →
      CallsX P k cargs.toArray w fun val w' => ∃ g' M', VR g' M' v val ∧ HR H' g' M' w' ∧ Base w M (Z.all H g) H' g' M' w'

def wpFnT (ps : List (List (Option Ty))) (C : Ctx) (fn : Func) (args : List V) (hs : Heap) (K : V → Heap → Prop) : Prop :=
  match fn.body with
  | none => False
  | some body =>
    bif Nat.ble args.length fn.ntmps && Nat.beq fn.ntmps C.ntmps && Nat.beq 0 C.base then
      wpE C body (paramsFr 0 args) hs fun e fr H =>
        match e with
        | .exit _ => False
        | _ => resV C fr H fn.results.toList fun vs => outG ps 0 H vs K
    else False

section
variable {P : Program} {C : Ctx}
theorem wpFnT_ang (hc : CallAng C) (hd : CallAng C.drawn) (ps : List (List (Option Ty))) (fn : Func) (args : List V) (hs : Heap) {K : V → Heap → Prop} (h : wpFnT ps C fn args hs K) : ∃ v H', K v H' ∧ ∀ K' : V → Heap → Prop, K' v H' → wpFnT ps C fn args hs K' := by
  unfold wpFnT at h
  cases hb : fn.body with
  | none => simp only [hb] at h
  | some body =>
    simp only [hb] at h
    cases hq : (Nat.ble args.length fn.ntmps && Nat.beq fn.ntmps C.ntmps && Nat.beq 0 C.base) with
    | false => simp only [hq, cond_false] at h
    | true =>
      simp only [hq, cond_true] at h
      obtain ⟨e, fr, H, h1, h2⟩ := wpE_ang hc hd body _ _ _ h
      have fin : ∀ (F : (V → Heap → Prop) → Prop), F K → (F = fun K => resV C fr H fn.results.toList fun vs => outG ps 0 H vs K) → ∃ v H', K v H' ∧ ∀ K' : V → Heap → Prop, K' v H' → F K' := by
        rintro F hF rfl
        obtain ⟨vs, h3, h4⟩ := resV_ang fr H _ _ hF
        obtain ⟨v, H', h5, h6⟩ := outG_ang ps _ H vs h3
        exact ⟨v, H', h5, fun K' h' => h4 _ (h6 K' h')⟩
      cases e with
      | exit id => exact h1.elim
      | normal =>
        obtain ⟨v, H', h5, h6⟩ := fin _ h1 rfl
        refine ⟨v, H', h5, fun K' h' => ?_⟩
        unfold wpFnT
        simp only [hb, hq, cond_true]
        exact h2 _ (h6 K' h')
      | ret =>
        obtain ⟨v, H', h5, h6⟩ := fin _ h1 rfl
        refine ⟨v, H', h5, fun K' h' => ?_⟩
        unfold wpFnT
        simp only [hb, hq, cond_true]
        exact h2 _ (h6 K' h')

theorem fnTk_of_wpFnT (L : LOk P C) (hc : CallsOk0 P C) (hm : P.follows .mixedOrders = true) (ps : List (List (Option Ty))) {k : FuncId} {fn : Func} (hf : P.funcs[k]? = some fn) (hn : (fn.name == "runtime.NumGoroutine") = false) : FnTk P k (wpFnT ps C fn) := by
  intro args hs K h
  obtain ⟨v, H1, h1, h2⟩ := wpFnT_ang hc.ang hc.drawn.ang ps fn args hs h
  refine ⟨v, H1, h1, h2, ?_⟩
  intro w g0 M cargs ha hr0 hG
  have hw := h2 (fun u hs => u = v ∧ hs = H1) ⟨rfl, rfl⟩
  unfold wpFnT at hw
  cases hb : fn.body with
  | none => simp only [hb] at hw
  | some body =>
    simp only [hb] at hw
    cases hq : (Nat.ble args.length fn.ntmps && Nat.beq fn.ntmps C.ntmps && Nat.beq 0 C.base) with
    | false => simp only [hq, cond_false] at hw
    | true =>
      simp only [hq, cond_true] at hw
      simp only [Bool.and_eq_true] at hq
      have q1 := Nat.le_of_ble_eq_true hq.1.1
      have q2 := beq_true hq.1.2
      have hlen := ha.length
      refine .inr ⟨?_, ?_⟩
      · have hn' : ¬ fn.name = "runtime.NumGoroutine" := by simpa using hn
        simp [callFunc, hf, hn', hb]
      · refine calls_of_wp hf hb ?_
        have hzn : (Z.all hs g0).n ≤ C.base := Nat.zero_le _
        refine wpE_sound (w0 := w) (M0 := M) (own0 := Z.all hs g0) L ⟨hG, hc, hzn⟩ hm hzn body _ _ _ _ w _ hw ?_ ?_
        · refine ⟨g0, M, ⟨fun t => ?_, ?_, rfl⟩, hr0, ⟨Nat.le_refl _, fun _ _ _ => rfl, fun b hb' => .inl hb', fun _ _ h => h, fun _ _ h => .inl h, rfl, rfl, rfl, fun id b hid => hid.elim⟩⟩
          · rw [paramsFr_get, if_pos (Nat.zero_le _)]
            simp only [Nat.sub_zero]
            cases e : args[t]? with
            | none => exact .undef _
            | some u =>
              obtain ⟨c, hc1, hc2⟩ := ha.get e
              have : (cargs.toArray ++ Array.replicate (fn.ntmps - cargs.toArray.size) Go.undef).getD t Go.undef = c := by
                have hlt := lt_of_get hc1
                simp only [Array.getD_eq_getD_getElem?]
                rw [Array.getElem?_append_left (by simpa using hlt)]
                simp [hc1]
              rw [this]
              exact hc2
          · simp
            omega
        · rintro e fr' H' hk a' w' ⟨g, M', hfr, hr, hbase⟩
          have fin : (resV C fr' H' fn.results.toList fun vs => outG ps 0 H' vs fun u hs => u = v ∧ hs = H1) → a'.defers = [] ∧ ∃ u, (results fn a'.tmps).run P w' = .ok u w' ∧
              ∃ u', Ending.returned u = .returned u' ∧ ∃ g' M', VR g' M' v u' ∧ HR H1 g' M' w' ∧ Base w M (Z.all hs g0) H1 g' M' w' := by
            intro hres
            obtain ⟨vs, vals, p1, p2, p3, p4⟩ := run_resV L hfr hr _ _ hres
            refine ⟨hfr.defers, _, run_results p3 p4, _, rfl, ?_⟩
            unfold outG at p1
            split at p1
            · rename_i H2 vs2 e2
              obtain ⟨rfl, rfl⟩ := p1
              obtain ⟨g2, M2, r1, r2, r3, r4, r5⟩ := gives2_sound hr hbase p2 e2
              have hk := leftL_ok 0 H2 vs2
              obtain ⟨s1, s2⟩ := norm_hr hk (own0 := Z.all hs g0) (Nat.le_refl _) r1 r2
              exact ⟨_, M2, tup_sound (scrubAs_sound r1 _ r5), s1, s2⟩
            · exact p1.elim
          cases e with
          | exit id => exact hk.elim
          | normal => exact fin hk
          | ret => exact fin hk

/-- A function to which things are given away, and which hands over new ones. -/
def semK (ag : Bool) (ps : List Po) (l : List AT) (rs : List RT) (gd : PD ps → ADen l → Bool) (f : PD ps → ADen l → RD rs) : Sm := fun args H K =>
  match args with
  | v :: r =>
    match cellsM ag v with
    | some vs =>
      match decP H ps vs with
      | some (s, L) =>
        bif immuts r then
          match decAs l r with
          | some x => bif nodupB L then cond (gd s x) (K (tup (valRs rs (f s x) H.length)) (kill H L ++ thRs rs (f s x))) False else False
          | none => False
        else bif allRs flatTy rs then
          match views3 (kill H L) r with
          | some r' => match decAs l r' with
            | some x => bif nodupB L then cond (gd s x) (K (tup (valRs rs (f s x) H.length)) (kill H L ++ thRs rs (f s x))) False else False
            | none => False
          | none => False
        else False
      | none => False
    | none => False
  | [] => False

theorem HR.kill {H : Heap} {g : List G} {M : Mem} {w : World} (hr : HR H g M w) (L : List Nat) : HR (kill H L) g M w := by
  refine ⟨by rw [kill_len]; exact hr.len, ?_, ?_, hr.mem⟩
  · intro id o x h1 h2
    rcases kill_get h1 with ⟨_, rfl⟩ | ⟨_, k⟩
    · simp only [ObOk]
    · exact hr.ob id o x k h2
  · intro id id' o o' x x' b h1 h2 h3 h4 h5 h6
    rcases kill_get h1 with ⟨_, rfl⟩ | ⟨_, k⟩
    · simp [ownB] at h5
    · rcases kill_get h3 with ⟨_, rfl⟩ | ⟨_, k'⟩
      · simp [ownB] at h6
      · exact hr.apart id id' o o' x x' b k h2 k' h4 h5 h6

theorem semK_glue {P : Program} {k : FuncId} {S : Sm} (hS : FnTk P k S) {ag : Bool} {ps : List Po} {rs : List RT} {y : RD rs} {as : List V} (hag : ag = true ∨ (∃ e, ps = [.own e]) ∨ ∃ e, ps = [.deep e])
    {s : PD ps} (h : ∀ (K : V → Heap → Prop), K (tup (valRs rs y 0)) (thRs rs y) → S (ofCells ag (encP ps s 0) :: as) (thP ps s) K)
    {w : World} {g : List G} {M Mv : Mem} {H : Heap} {v : V} {vs : List V} {L : List Nat} (hvs : cellsM ag v = some vs) (hd : decP H ps vs = some (s, L)) (hnd : L.Nodup) (hr : HR H g M w) {c0 : Value} {cargs : List Value} (hp : VR g M v c0)
    (ha : ∀ g', VRs g' Mv as cargs) (hMv : MemOk Mv w) (hGv : GamOk P Mv) (hlv : ∀ b cs, M b = some cs → Mv b = some cs)
    (hno : ∀ b, (∃ (id : Nat) (o : Ob) (x : G), id ∈ L ∧ H[id]? = some o ∧ g[id]? = some x ∧ ownB o x b) → Mv b = none)
    {p : Ty → Bool} (hrs : allRs p rs = true) (hmode : Mv = M ∨ ∀ t, p t = true → flatTy t = true) :
    CallsX P k (c0 :: cargs).toArray w fun val w' => ∃ g' M', VR g' M' (tup (valRs rs y H.length)) val ∧ HR (Ev.kill H L ++ thRs rs y) g' M' w' ∧ Ext g M g' M' ∧ Base w M (Z.of H g) (Ev.kill H L ++ thRs rs y) g' M' w' := by
  obtain ⟨hLl, hth⟩ := decP_things hd
  have hgc : ∀ k id, L[k]? = some id → (gNorm L g)[0 + k]? = some (gAt g id) := by
    intro k id hk
    simp [gNorm, hk]
  have hsub := sub_hr hr hnd (Hc := thP ps s) (by rw [thP_len, hLl]) hth
  have hownL : ∀ b, Own (thP ps s) (gNorm L g) b → ∃ (id : Nat) (o : Ob) (x : G), id ∈ L ∧ H[id]? = some o ∧ g[id]? = some x ∧ ownB o x b := by
    rintro b ⟨k, o, x, p1, p2, p3⟩
    obtain ⟨_, _, id, o0, x0, m1, m2, m3, _, _, m5⟩ := hsub k o x p1 p2
    exact ⟨id, o0, x0, List.mem_of_getElem? m1, m2, m3, m5 b p3⟩
  have hr1 : HR (thP ps s) (gNorm L g) Mv w := by
    refine ⟨by simp [gNorm, thP_len, hLl], fun k o x h1 h2 => (hsub k o x h1 h2).1.frame (Ext.mem hlv) fun b hb => ⟨rfl, hno b (hownL b ⟨k, o, x, h1, h2, hb⟩)⟩, ?_, hMv⟩
    intro k k' o o' x x' b h1 h2 h3 h4 h5 h6
    obtain ⟨_, _, id, o0, x0, p1, p2, p3, _, _, p5⟩ := hsub k o x h1 h2
    obtain ⟨_, _, id', o0', x0', q1, q2, q3, _, _, q5⟩ := hsub k' o' x' h3 h4
    have := hr.apart id id' o0 o0' x0 x0' b p2 p3 q2 q3 (p5 b h5) (q5 b h6)
    subst this
    exact nodup_pos hnd p1 q1
  have hva : ∀ c, VR g M v c → VR (gNorm L g) M (ofCells ag (encP ps s 0)) c := by
    intro c hc
    cases ag with
    | true =>
      simp only [cellsM, cond_true] at hvs
      split at hvs
      · rename_i us
        cases hvs
        cases hc with
        | agg _ cs hcs => exact .agg _ cs (decP_sound hr hd hcs hgc)
      · cases hvs
    | false =>
      rcases hag with k | ⟨e, rfl⟩ | ⟨e, rfl⟩
      · cases k
      · simp only [cellsM, cond_false] at hvs
        cases hvs
        have := decP_sound hr hd (cs := [c]) (.cons hc .nil) hgc
        simp only [encP] at this ⊢
        cases this with
        | cons a _ => exact a
      · simp only [cellsM, cond_false] at hvs
        cases hvs
        have := decP_sound hr hd (cs := [c]) (.cons hc .nil) hgc
        simp only [encP] at this ⊢
        cases this with
        | cons a _ => exact a
  obtain ⟨v1, H1, h1, h2, h3⟩ := hS (ofCells ag (encP ps s 0) :: as) (thP ps s) (fun v hs => v = tup (valRs rs y 0) ∧ hs = thRs rs y) (h _ ⟨rfl, rfl⟩)
  obtain ⟨rfl, rfl⟩ := h1
  refine (h3 w (gNorm L g) Mv _ (.cons ((hva _ hp).mono (Ext.mem hlv)) (ha _)) hr1 hGv).mono ?_
  rintro val w' ⟨g1, M1, q1, q2, q4⟩
  have hgl := hr.len
  have hkl := kill_len H L
  -- the memory that stays
  have key : ∃ Mn : Mem, MemOk Mn w' ∧ (∀ b cs, M b = some cs → Mn b = some cs) ∧ (∀ b cs, Mn b = some cs → M b = some cs ∨ (∃ (id : Nat) (o : Ob) (x : G), id ∈ L ∧ H[id]? = some o ∧ g[id]? = some x ∧ ownB o x b) ∨ w.heap.size ≤ b) ∧ (∀ b, M1 b = none → Mn b = none) ∧
      (∀ t, p t = true → ∀ (x : t.den) (cs : List Value), VRs g1 M1 (enc t x) cs → VRs (g ++ g1) Mn (enc t x) cs) := by
    rcases hmode with rfl | hflat
    · exact ⟨M1, q2.mem, q4.mle, fun b cs hb => (q4.mnew b cs hb).imp (fun x => x) fun k => k.imp (hownL b) fun q => q, fun _ h => h, fun t _ x cs hx => hx.imm (immuts_enc t x)⟩
    · refine ⟨M, ?_, fun _ _ h => h, fun _ _ h => .inl h, fun b hb => ?_, fun t ht x cs hx => hx.flat (flats_enc t x (hflat t ht))⟩
      · intro b cs hb
        obtain ⟨c, T, fz, k1, k2⟩ := hr.mem b cs hb
        refine ⟨c, T, fz, (q4.keep b (lt_of_cells k1) fun ho => ?_).trans k1, k2⟩
        obtain ⟨id, o, x, _, p2, p3, p4⟩ := hownL b ho
        have := (hr.own_lt ⟨id, o, x, p2, p3, p4⟩).2
        rw [hb] at this; cases this
      · cases e : M b with
        | none => rfl
        | some cs => rw [q4.mle b cs (hlv b cs e)] at hb; cases hb
  obtain ⟨Mn, m1, m2, m3, m4, m5⟩ := key
  have hgn : ∀ (j : Nat) (z : G), g1[j]? = some z → (g ++ g1)[g.length + j]? = some z := fun j z hj => by
    rw [List.getElem?_append_right (by omega), show g.length + j - g.length = j by omega]; exact hj
  have hcase : ∀ (id : Nat) (o : Ob) (x : G), (Ev.kill H L ++ thRs rs y)[id]? = some o → (g ++ g1)[id]? = some x → (id < H.length ∧ (Ev.kill H L)[id]? = some o ∧ g[id]? = some x) ∨ (H.length ≤ id ∧ (thRs rs y)[id - H.length]? = some o ∧ g1[id - H.length]? = some x) := by
    intro id o x p1 p2
    rcases Nat.lt_or_ge id H.length with hl | hl
    · rw [List.getElem?_append_left (by omega)] at p1
      rw [List.getElem?_append_left (by omega)] at p2
      exact .inl ⟨hl, p1, p2⟩
    · rw [List.getElem?_append_right (by omega), hkl] at p1
      rw [List.getElem?_append_right (by omega), ← hgl] at p2
      exact .inr ⟨hl, p1, p2⟩
  obtain ⟨r1, r2, r3⟩ := glue (L := fun i => i ∈ L) (H' := Ev.kill H L ++ thRs rs y) (g' := g ++ g1) (Mn := Mn) hr m1 m2 m3
    (fun b hb hn => q4.keep b hb fun ho => hn (hownL b ho)) q4.size q4.os q4.tape q4.output
    (by simp [hgl, hkl, q2.len]) (fun id x hx => by rw [List.getElem?_append_left (lt_of_get hx)]; exact hx) (by
      intro id o x p1 p2
      rcases hcase id o x p1 p2 with ⟨_, k1, k2⟩ | ⟨hl, k1, k2⟩
      · rcases kill_get k1 with ⟨m1, rfl⟩ | ⟨m1, m2⟩
        · exact .inr ⟨(by simp only [ObOk]), (fun b hb => by simp [ownB] at hb), fun id' o' x' b _ _ hb _ => by simp [ownB] at hb⟩
        · exact .inl ⟨m1, m2, k2⟩
      · refine .inr ⟨ObOk.given m5 m4 (thRs_given rs y hrs o (List.mem_of_getElem? k1)) (q2.ob _ o x k1 k2), fun b hb => ?_, ?_⟩
        · exact (q4.own b ⟨_, o, x, k1, k2, hb⟩).imp (hownL b) fun q => q
        · intro id' o' x' b p3 p4 p5 p6
          rcases hcase id' o' x' p3 p4 with ⟨_, k3, k4⟩ | ⟨hl', k3, k4⟩
          · rcases kill_get k3 with ⟨m1, rfl⟩ | ⟨m1, m2⟩
            · simp [ownB] at p6
            · exact .inr ⟨m1, m2, k4⟩
          · have := q2.apart _ _ o o' x x' b k1 k2 k3 k4 p5 p6
            exact .inl (by omega))
  refine ⟨g ++ g1, Mn, ?_, r1, r2, r3⟩
  have := VR_tup (g := g1) (M := M1) (g' := g ++ g1) (M' := Mn) (vs := valRs rs y 0) (us := valRs rs y (g.length + 0)) (by rw [valRs_len, valRs_len]) (fun cs hcs => valRs_shift hgn m5 rs y 0 hrs hcs) q1
  rw [Nat.add_zero, ← hgl] at this
  exact this

theorem fnOkO_take0 {P : Program} {k : FuncId} {S : Sm} (hS : FnTk P k S) {ag : Bool} {ps : List Po} {l : List AT} {rs : List RT} {gd : PD ps → ADen l → Bool} {f : PD ps → ADen l → RD rs} (hag : ag = true ∨ (∃ e, ps = [.own e]) ∨ ∃ e, ps = [.deep e]) (hrs : allRs (fun _ => true) rs = true)
    (h : ∀ (s : PD ps) (x : ADen l), WfAs l x → gd s x = true → ∀ (K : V → Heap → Prop), K (tup (valRs rs (f s x) 0)) (thRs rs (f s x)) → S (ofCells ag (encP ps s 0) :: encAs l x) (thP ps s) K) : FnOkO P k (semK ag ps l rs gd f) := by
  intro args H K hk
  simp only [semK] at hk
  split at hk
  · rename_i v r
    split at hk
    · rename_i vs hvs
      split at hk
      · rename_i s L hd
        cases him : immuts r with
        | true =>
          simp only [him, cond_true] at hk
          split at hk
          · rename_i x hx
            cases hi : nodupB L with
            | false => simp only [hi, cond_false] at hk
            | true =>
              simp only [hi, cond_true] at hk
              cases hgd : gd s x with
              | false => simp only [hgd, cond_false] at hk
              | true =>
              simp only [hgd, cond_true] at hk
              refine ⟨_, _, hk, fun K' h' => by simp only [semK, hvs, hd, him, hx, hi, hgd, cond_true]; exact h', ?_⟩
              have hnd := nodupB_ok hi
              intro w g M cargs hv hr hG
              cases hv with
              | cons hp hrest =>
              have hwx : WfAs l x := wfAs_of hx hrest
              exact semK_glue hS hag (h s x hwx hgd) hvs hd hnd hr hp (fun g' => (decAs_sound hx hrest).imm (immuts_encAs l x)) hr.mem hG (fun _ _ h => h) (fun b ⟨id, o, z, _, p2, p3, p4⟩ => (hr.own_lt ⟨id, o, z, p2, p3, p4⟩).2) hrs (.inl rfl)
          · exact hk.elim
        | false =>
          simp only [him, cond_false] at hk
          cases hf : allRs flatTy rs with
          | false => simp only [hf, cond_false] at hk
          | true =>
            simp only [hf, cond_true] at hk
            split at hk
            · rename_i r' hv'
              split at hk
              · rename_i x hx
                cases hi : nodupB L with
                | false => simp only [hi, cond_false] at hk
                | true =>
                  simp only [hi, cond_true] at hk
                  cases hgd : gd s x with
                  | false => simp only [hgd, cond_false] at hk
                  | true =>
                  simp only [hgd, cond_true] at hk
                  refine ⟨_, _, hk, fun K' h' => by simp only [semK, hvs, hd, him, hf, hv', hx, hi, hgd, cond_true, cond_false]; exact h', ?_⟩
                  have hnd := nodupB_ok hi
                  intro w g M cargs hv hr hG
                  cases hv with
                  | cons hp hrest =>
                  have hrk := hr.kill L
                  have hvv := views3_sound hrk hrest hv'
                  have hwx : WfAs l x := wfAs_of hx hvv
                  refine semK_glue hS hag (h s x hwx hgd) hvs hd hnd hr hp (fun g' => (decAs_sound hx hvv).imm (immuts_encAs l x)) (memAll_ok hrk) (hG.mono (memAll_le _ g M w)) (memAll_le _ g M w) (fun b ⟨id, o, z, p1, p2, p3, p4⟩ => ?_) hf (.inr fun _ h => h)
                  have hMb := (hr.own_lt ⟨id, o, z, p2, p3, p4⟩).2
                  have hnk : ¬ Own (Ev.kill H L) g b := by
                    rintro ⟨id', o', z', q1, q2, q3⟩
                    rcases kill_get q1 with ⟨_, rfl⟩ | ⟨n1, n2⟩
                    · simp [ownB] at q3
                    · have := hr.apart id id' o o' z z' b p2 p3 n2 q2 p4 q3
                      subst this
                      exact n1 p1
                  simp only [memAll, hMb, hnk, if_false]
              · exact hk.elim
            · exact hk.elim
      · exact hk.elim
    · exact hk.elim
  · exact hk.elim

theorem kill_boxes (H H2 : Heap) (id : Nat) (L : List Nat) (h : ∀ i ∈ L, ∃ (o0 o : Ob), H[i]? = some o0 ∧ Zed o0 o) : BoxesStay id H (kill H L ++ H2) := by
  intro j hj cells hc
  have hl : j < (kill H L).length := by rw [kill_len]; exact lt_of_get hc
  rw [List.getElem?_append_left hl, List.getElem?_eq_getElem hl]
  rcases kill_get (List.getElem?_eq_getElem hl) with ⟨m1, m2⟩ | ⟨m1, m2⟩
  · obtain ⟨o0, o, p1, p2⟩ := h j m1
    rw [hc] at p1; cases p1
    exact absurd rfl (p2.noBox cells)
  · rw [← m2]; exact hc
theorem semK_local (ag : Bool) (ps : List Po) (l : List AT) (rs : List RT) (gd : PD ps → ADen l → Bool) (f : PD ps → ADen l → RD rs) : LocalS (semK ag ps l rs gd f) := by
  intro v r H K h
  simp only [semK] at h ⊢
  split at h
  · rename_i vs hvs
    split at h
    · rename_i s L hd
      have fin : ∀ x : ADen l, (bif nodupB L then cond (gd s x) (K (tup (valRs rs (f s x) H.length)) (Ev.kill H L ++ thRs rs (f s x))) False else False) →
          (bif nodupB L then cond (gd s x) (K (tup (valRs rs (f s x) H.length)) (Ev.kill H L ++ thRs rs (f s x)) ∧ StayOf v H (Ev.kill H L ++ thRs rs (f s x))) False else False) := by
        intro x h
        cases hi : nodupB L with
        | false => simp only [hi, cond_false] at h
        | true =>
          cases hg : gd s x with
          | false => simp only [hi, hg, cond_true, cond_false] at h
          | true =>
            simp only [hi, hg, cond_true] at h
            simp only [cond_true]
            exact ⟨h, .of fun id => kill_boxes H _ id L (decP_sl hd)⟩
      cases him : immuts r with
      | true =>
        simp only [hd, him, cond_true] at h ⊢
        split at h
        · rename_i x hx
          exact fin x h
        · exact h.elim
      | false =>
        simp only [hd, him, cond_false] at h ⊢
        cases hf : allRs flatTy rs with
        | false => simp only [hf, cond_false] at h
        | true =>
          simp only [hf, cond_true] at h ⊢
          split at h
          · rename_i r' hv'
            split at h
            · rename_i x hx
              exact fin x h
            · exact h.elim
          · exact h.elim
    · exact h.elim
  · exact h.elim
theorem fnOkO_take {P : Program} {k : FuncId} {S : Sm} (hS : FnTk P k S) {ag : Bool} {ps : List Po} {l : List AT} {rs : List RT} {gd : PD ps → ADen l → Bool} {f : PD ps → ADen l → RD rs} (hag : ag = true ∨ (∃ e, ps = [.own e]) ∨ ∃ e, ps = [.deep e]) (hrs : allRs (fun _ => true) rs = true)
    (h : ∀ (s : PD ps) (x : ADen l), WfAs l x → gd s x = true → ∀ (K : V → Heap → Prop), K (tup (valRs rs (f s x) 0)) (thRs rs (f s x)) → S (ofCells ag (encP ps s 0) :: encAs l x) (thP ps s) K) : FnOkL P k (semK ag ps l rs gd f) := ⟨fnOkO_take0 hS hag hrs h, semK_local _ _ _ _ _ _⟩
theorem fnTk_run {P : Program} {C : Ctx} {ty : TypeId → Ty} {kv kf ko : List (FuncId × Sm)} {n : Nat} {ann : Nat → Option Ann} {base : Nat} {cut : Bool} {kd : List (FuncId × Sm)} {deep mv vw : Bool} {ke : List (FuncId × Sm)} (ps : List (List (Option Ty))) (hC : C = mkC P ty kv kf ko n ann base cut kd deep mv vw ke) (hm : P.follows .mixedOrders = true)
    (h1 : Known P kv) (h2 : Known P kf) (h3 : KnownO P ko) {k : FuncId} {fn : Func} (hf : P.funcs[k]? = some fn) (hn : (fn.name == "runtime.NumGoroutine") = false) (h4 : Known P kd := by exact .nil) (h5 : KnownE P ke := by exact .nil) : FnTk P k (wpFnT ps C fn) := by
  subst hC
  exact fnTk_of_wpFnT (lok_tiOf P ty _ rfl) (mkC_calls h1 h2 h3 h4 h5) hm ps hf hn
end
end Go.Ev
