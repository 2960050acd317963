/- Code as a whole, and functions. -/
import Derived.Test.YtfdalaakechldaaEvLate
set_option linter.unusedVariables false
set_option linter.unusedSimpArgs false
namespace Go.Ev

def Ex.out : Ex → Exit
  | .normal => .normal
  | .ret => .ret
  | .exit id => .exit id

section
variable {P : Program} {C : Ctx} {w0 : World} {M0 : Mem} {own0 : Z}

def CodeOk (P : Program) (C : Ctx) (w0 : World) (M0 : Mem) (own0 : Z) (c : Code) : Prop :=
  ∀ (fr : Fr) (H : Heap) (K : Ex → Fr → Heap → Prop) (a : Act) (w : World) (Q : Exit → Act → World → Prop), wpE C c fr H K → Good C w0 M0 own0 fr H a w →
    (∀ e fr' H', K e fr' H' → ∀ a' w', Good C w0 M0 own0 fr' H' a' w' → Q e.out a' w') → c.wp P Q a w

theorem loop_sound {body : Code} (hb : CodeOk P C w0 M0 own0 body) (ann : Option Ann) (hz : ∀ an, ann = some an → own0.n ≤ an.keep) {n : Nat} {fr : Fr} {H : Heap} {K : Ex → Fr → Heap → Prop} {a : Act} {w : World} {Q : Exit → Act → World → Prop}
    (h : loopN (wpE C body) ann n fr H K) (hg : Good C w0 M0 own0 fr H a w) (hq : ∀ e fr' H', K e fr' H' → ∀ a' w', Good C w0 M0 own0 fr' H' a' w' → Q e.out a' w') : (Code.loop body).wp P Q a w := by
  refine wp_loop_n (fun n a w => ∃ fr H, loopN (wpE C body) ann n fr H K ∧ Good C w0 M0 own0 fr H a w) ?_ ⟨fr, H, h, hg⟩
  rintro n a w ⟨fr, H, h, hg⟩
  cases n with
  | zero => exact h.elim
  | succ n =>
    refine hb fr H _ a w _ h hg ?_
    intro e fr' H' hk a' w' hg'
    cases e with
    | normal =>
      cases ann with
      | none => exact ⟨n, by omega, fr', H', hk, hg'⟩
      | some an => exact ⟨n, by omega, _, _, hk, norm_good (hz an rfl) hg'⟩
    | ret => exact hq .ret fr' H' hk a' w' hg'
    | exit id => exact hq (.exit id) fr' H' hk a' w' hg'

theorem good_drawn {fr : Fr} {H : Heap} {a : Act} {w : World} (h : Good C w0 M0 own0 fr H a w) : Good C.drawn w0 M0 own0 fr H a w := by
  obtain ⟨g, M, hf, hr, hb⟩ := h
  exact ⟨g, M, ⟨hf.get, hf.size, hf.defers⟩, hr, hb⟩
theorem good_drawn' {fr : Fr} {H : Heap} {a : Act} {w : World} (h : Good C.drawn w0 M0 own0 fr H a w) : Good C w0 M0 own0 fr H a w := by
  obtain ⟨g, M, hf, hr, hb⟩ := h
  exact ⟨g, M, ⟨hf.get, hf.size, hf.defers⟩, hr, hb⟩
theorem wpE_sound (L : LOk P C) (hc : CallsOk P C M0 own0) (hm : P.follows .mixedOrders = true) (hz : own0.n ≤ C.base) : ∀ c, CodeOk P C w0 M0 own0 c := by
  intro c
  induction c with
  | skip => intro fr H K a w Q h hg hq; exact wp_skip (hq .normal fr H h a w hg)
  | ret => intro fr H K a w Q h hg hq; exact wp_ret (hq .ret fr H h a w hg)
  | exit id => intro fr H K a w Q h hg hq; exact wp_exit (hq (.exit id) fr H h a w hg)
  | seq x y ihx ihy =>
    intro fr H K a w Q h hg hq
    refine wp_seq (ihx fr H _ a w _ h hg ?_)
    intro e fr' H' hk a' w' hg'
    cases e with
    | normal => exact ihy fr' H' K a' w' Q hk hg' hq
    | ret => exact hq .ret fr' H' hk a' w' hg'
    | exit id => exact hq (.exit id) fr' H' hk a' w' hg'
  | cond c x y ihx ihy =>
    intro fr H K a w Q h hg hq
    simp only [wpE] at h
    split at h
    · rename_i t ht
      have hcv : a.eval c = .bool t := by
        obtain ⟨g, M, hf, _, _⟩ := hg
        have := hf.eval c
        rw [ht] at this
        generalize a.eval c = v at this
        cases this
        rfl
      refine wp_cond hcv ?_
      cases t with
      | true => exact ihx fr H K a w Q h hg hq
      | false => exact ihy fr H K a w Q h hg hq
    · exact h.elim
  | block id x ih =>
    intro fr H K a w Q h hg hq
    refine wp_block (ih fr H _ a w _ h hg ?_)
    intro e fr' H' hk a' w' hg'
    cases e with
    | normal => exact hq .normal fr' H' hk a' w' hg'
    | ret => exact hq .ret fr' H' hk a' w' hg'
    | exit id' =>
      simp only at hk
      show Exit.inBlock id Q (.exit id') a' w'
      simp only [Exit.inBlock]
      cases e : Nat.beq id' id with
      | true =>
        simp only [e, cond_true] at hk
        rw [if_pos (beq_true e)]
        exact hq .normal fr' H' hk a' w' hg'
      | false =>
        simp only [e, cond_false] at hk
        rw [if_neg (beq_false e)]
        exact hq (.exit id') fr' H' hk a' w' hg'
  | loop body ih =>
    intro fr H K a w Q h hg hq
    simp only [wpE] at h
    split at h
    · obtain ⟨n, h⟩ := h
      exact loop_sound ih none (fun _ e => by cases e) h hg hq
    · rename_i an _
      cases hk : Nat.ble C.base an.keep with
      | false => simp only [hk, cond_false] at h
      | true =>
        simp only [hk, cond_true] at h
        obtain ⟨n, h⟩ := h
        have hz' : own0.n ≤ an.keep := Nat.le_trans hz (Nat.le_of_ble_eq_true hk)
        exact loop_sound ih (some an) (fun _ e => by cases e; exact hz') h (norm_good hz' hg) hq
  | region id ops draw =>
    intro fr H K a w Q h hg hq
    cases draw with
    | true =>
      simp only [wpE, cond_true] at h
      cases hd : drawOk C.drawn ops.toList (masksOf ops.toList []) (tailFrom ops.toList) with
      | false =>
        cases hd2 : (C.mv && drawOkF C.drawn ops.toList (masksOf ops.toList []) (tailFrom ops.toList)) with
        | false => simp only [hd, hd2, Bool.or_false, cond_false] at h
        | true =>
          simp only [hd, hd2, Bool.or_true, cond_true] at h
          simp only [Bool.and_eq_true] at hd2
          exact draw_float (C := C.drawn) L hc.drawn hm hd2.2 h (good_drawn hg) fun fr' H' hk a' w' hg' => hq .normal fr' H' hk a' w' (good_drawn' hg')
      | true =>
        simp only [hd, Bool.true_or, cond_true] at h
        exact draw_float (C := C.drawn) L hc.drawn hm (drawOkF_of hd) h (good_drawn hg) fun fr' H' hk a' w' hg' => hq .normal fr' H' hk a' w' (good_drawn' hg')
    | false =>
      simp only [wpE, cond_false] at h
      exact wp_region_list (evalOps_sound L hc ops _ fr H _ a w h hg fun fr' H' hk a' w' hg' => hq .normal fr' H' hk a' w' hg')
  | _ => intro fr H K a w Q h; exact h.elim

/-! ### one outcome -/
theorem put_ang (fr : Fr) (d : Option Nat) (v : V) : Ang1 (fun K => put C fr d v K) := by
  cases d with
  | none => exact ang1_pure _
  | some d => exact ang1_cond _ (ang1_pure _) ang1_false

theorem evalOps_ang (hc : CallAng C) (ops : Array Oper) : ∀ (l : List Oper) (fr : Fr) (H : Heap), Ang2 (fun K => evalOps C ops l fr H K) := by
  intro l
  induction l with
  | nil => intro fr H K h; exact ⟨fr, H, h, fun _ h => h⟩
  | cons o l ih =>
    intro fr H
    have run : ∀ fr1, Ang2 (fun K => evalOp C o (Fr.eval fr1) H fun v H' => put C fr1 o.dst v fun fr' => evalOps C ops l fr' H' K) := by
      intro fr1 K h
      obtain ⟨v, H', h1, _, h2⟩ := evalOp_ang hc o _ (fun _ => rfl) H _ h
      obtain ⟨fr', h3, h4⟩ := put_ang fr1 o.dst v _ h1
      obtain ⟨fr'', H'', h5, h6⟩ := ih fr' H' K h3
      exact ⟨fr'', H'', h5, fun K' h' => h2 _ (h4 _ (h6 K' h'))⟩
    have skip : ∀ fr1, Ang2 (fun K => put C fr1 o.dst (.tuple []) fun fr' => evalOps C ops l fr' H K) := by
      intro fr1 K h
      obtain ⟨fr', h3, h4⟩ := put_ang fr1 o.dst (.tuple []) _ h
      obtain ⟨fr'', H'', h5, h6⟩ := ih fr' H K h3
      exact ⟨fr'', H'', h5, fun K' h' => h4 _ (h6 K' h')⟩
    simp only [evalOps]
    split
    · exact run fr
    · split
      · exact fun K h => h.elim
      · split
        · rename_i j want _ _ d _ _ b _
          cases want <;> cases b
          · exact run _
          · exact skip _
          · exact skip _
          · exact run _
        · exact skip fr
        · exact fun K h => h.elim

theorem evalOpsD_ang (hc : CallAng C) (ops : Array Oper) : ∀ (l : List Oper) (fr : Fr) (H : Heap), Ang2 (fun K => evalOpsD C ops l fr H K) := by
  intro l
  induction l with
  | nil => intro fr H K h; exact ⟨fr, H, h, fun _ h => h⟩
  | cons o l ih =>
    intro fr H
    have run : ∀ fr1, Ang2 (fun K => evalOpD C o (Fr.eval fr1) H fun v H' => put C fr1 o.dst v fun fr' => evalOpsD C ops l fr' H' K) := by
      intro fr1 K h
      obtain ⟨v, H', h1, h2, _⟩ := eff_D hc o _ (fun _ => rfl) H _ h
      obtain ⟨fr', h3, h4⟩ := put_ang fr1 o.dst v _ h1
      obtain ⟨fr'', H'', h5, h6⟩ := ih fr' H' K h3
      exact ⟨fr'', H'', h5, fun K' h' => h2 _ (h4 _ (h6 K' h'))⟩
    have skip : ∀ fr1, Ang2 (fun K => put C fr1 o.dst (.tuple []) fun fr' => evalOpsD C ops l fr' H K) := by
      intro fr1 K h
      obtain ⟨fr', h3, h4⟩ := put_ang fr1 o.dst (.tuple []) _ h
      obtain ⟨fr'', H'', h5, h6⟩ := ih fr' H K h3
      exact ⟨fr'', H'', h5, fun K' h' => h4 _ (h6 K' h')⟩
    simp only [evalOpsD]
    split
    · exact run fr
    · split
      · exact fun K h => h.elim
      · split
        · rename_i j want _ _ d _ _ b _
          cases want <;> cases b
          · exact run _
          · exact skip _
          · exact skip _
          · exact run _
        · exact skip fr
        · exact fun K h => h.elim

theorem loopN_ang {step : Fr → Heap → (Ex → Fr → Heap → Prop) → Prop} (hs : ∀ fr H, Ang3 (step fr H)) (ann : Option Ann) : ∀ n fr H, Ang3 (fun K => loopN step ann n fr H K) := by
  intro n
  induction n with
  | zero => intro fr H K h; exact h.elim
  | succ n ih =>
    intro fr H K h
    simp only [loopN] at h
    obtain ⟨e, fr', H', h1, h2⟩ := hs fr H _ h
    cases e with
    | normal =>
      cases ann with
      | none =>
        obtain ⟨e2, fr2, H2, h3, h4⟩ := ih fr' H' K h1
        exact ⟨e2, fr2, H2, h3, fun K' h' => h2 _ (h4 K' h')⟩
      | some an =>
        obtain ⟨e2, fr2, H2, h3, h4⟩ := ih _ _ K h1
        exact ⟨e2, fr2, H2, h3, fun K' h' => h2 _ (h4 K' h')⟩
    | ret => exact ⟨.ret, fr', H', h1, fun K' h' => h2 _ h'⟩
    | exit id => exact ⟨.exit id, fr', H', h1, fun K' h' => h2 _ h'⟩

theorem wpE_ang (hc : CallAng C) (hd : CallAng C.drawn) : ∀ (c : Code) (fr : Fr) (H : Heap), Ang3 (fun K => wpE C c fr H K) := by
  intro c
  induction c with
  | skip => intro fr H K h; exact ⟨_, _, _, h, fun _ h => h⟩
  | ret => intro fr H K h; exact ⟨_, _, _, h, fun _ h => h⟩
  | exit id => intro fr H K h; exact ⟨_, _, _, h, fun _ h => h⟩
  | seq x y ihx ihy =>
    intro fr H K h
    simp only [wpE] at h
    obtain ⟨e, fr', H', h1, h2⟩ := ihx fr H _ h
    cases e with
    | normal =>
      obtain ⟨e2, fr2, H2, h3, h4⟩ := ihy fr' H' K h1
      exact ⟨e2, fr2, H2, h3, fun K' h' => h2 _ (h4 K' h')⟩
    | ret => exact ⟨.ret, fr', H', h1, fun K' h' => h2 _ h'⟩
    | exit id => exact ⟨.exit id, fr', H', h1, fun K' h' => h2 _ h'⟩
  | cond c x y ihx ihy =>
    intro fr H
    simp only [wpE]
    split
    · rename_i t _
      cases t
      · exact ihy fr H
      · exact ihx fr H
    · exact fun K h => h.elim
  | block id x ih =>
    intro fr H K h
    simp only [wpE] at h
    obtain ⟨e, fr', H', h1, h2⟩ := ih fr H _ h
    cases e with
    | normal => exact ⟨.normal, fr', H', h1, fun K' h' => h2 _ h'⟩
    | ret => exact ⟨.ret, fr', H', h1, fun K' h' => h2 _ h'⟩
    | exit id' =>
      simp only at h1
      cases e : Nat.beq id' id with
      | true =>
        simp only [e, cond_true] at h1
        exact ⟨.normal, fr', H', h1, fun K' h' => h2 _ (by simp only [e, cond_true]; exact h')⟩
      | false =>
        simp only [e, cond_false] at h1
        exact ⟨.exit id', fr', H', h1, fun K' h' => h2 _ (by simp only [e, cond_false]; exact h')⟩
  | loop body ih =>
    intro fr H
    simp only [wpE]
    split
    · rintro K ⟨n, h⟩
      obtain ⟨e, fr', H', h1, h2⟩ := loopN_ang ih none n fr H K h
      exact ⟨e, fr', H', h1, fun K' h' => ⟨n, h2 K' h'⟩⟩
    · rename_i an _
      cases hk : Nat.ble C.base an.keep with
      | false => exact fun K h => h.elim
      | true =>
        simp only [cond_true]
        rintro K ⟨n, h⟩
        obtain ⟨e, fr', H', h1, h2⟩ := loopN_ang ih (some an) n _ _ K h
        exact ⟨e, fr', H', h1, fun K' h' => ⟨n, h2 K' h'⟩⟩
  | region id ops draw =>
    intro fr H
    have key : Ang3 (fun K : Ex → Fr → Heap → Prop => evalOps C ops ops.toList fr H fun fr' H' => K .normal fr' H') := by
      intro K h
      obtain ⟨fr', H', h1, h2⟩ := evalOps_ang hc ops _ fr H _ h
      exact ⟨.normal, fr', H', h1, fun K' h' => h2 _ h'⟩
    cases draw with
    | true =>
      simp only [wpE, cond_true]
      cases (drawOk C.drawn ops.toList (masksOf ops.toList []) (tailFrom ops.toList) || (C.mv && drawOkF C.drawn ops.toList (masksOf ops.toList []) (tailFrom ops.toList))) with
      | true =>
        simp only [cond_true]
        intro K h
        obtain ⟨fr1, H1, h1, h2⟩ := evalOpsD_ang hd ops _ fr H _ h
        cases hfo : farOk C.drawn (ops.toList.take (tailFrom ops.toList)) (masksOf ops.toList []) fr1 with
        | false => simp only [hfo, cond_false] at h1
        | true =>
          simp only [hfo, cond_true] at h1
          obtain ⟨fr', H', h3, h4⟩ := evalOps_ang hd ops _ fr1 H1 _ h1
          exact ⟨.normal, fr', H', h3, fun K' h' => h2 _ (by simp only [hfo, cond_true]; exact h4 _ h')⟩
      | false => exact fun K h => h.elim
    | false =>
      simp only [wpE, cond_false]
      exact key
  | _ => intro fr H K h; exact h.elim

theorem resV_ang (fr : Fr) (H : Heap) : ∀ (l : List ResultVar), Ang1 (fun K => resV C fr H l K) := by
  intro l
  induction l with
  | nil => exact ang1_pure _
  | cons r l ih =>
    cases r with
    | tmp t =>
      intro K h
      simp only [resV] at h
      obtain ⟨vs, h1, h2⟩ := ih _ h
      exact ⟨_, h1, fun K' h' => h2 _ h'⟩
    | cell t ty =>
      intro K h
      simp only [resV] at h
      obtain ⟨v, h1, h2⟩ := loadV_ang ty _ H _ h
      obtain ⟨vs, h3, h4⟩ := ih _ h1
      exact ⟨_, h3, fun K' h' => h2 _ (h4 _ h')⟩

theorem outV_ang (H : Heap) (vs : List V) {K : V → Heap → Prop} (h : outV 0 H vs K) : ∃ v, K v [] ∧ ∀ K' : V → Heap → Prop, K' v [] → outV 0 H vs K' := by
  unfold outV at h ⊢
  cases hs : shuts 0 H vs with
  | none => rw [hs] at h; exact h.elim
  | some vs' =>
    rw [hs] at h
    match vs', h with
    | [], h => exact ⟨_, h, fun _ h => h⟩
    | [v], h => exact ⟨_, h, fun _ h => h⟩
    | v :: u :: r, h => exact ⟨_, h, fun _ h => h⟩

theorem wpFn_ang (hc : CallAng C) (hd : CallAng C.drawn) (fn : Func) (args : List V) {K : V → Heap → Prop} (h : wpFn C fn args [] K) : ∃ v, K v [] ∧ ∀ K' : V → Heap → Prop, K' v [] → wpFn C fn args [] K' := by
  unfold wpFn at h
  cases hb : fn.body with
  | none => simp only [hb] at h
  | some body =>
    simp only [hb] at h
    cases hq : (Nat.ble args.length fn.ntmps && Nat.beq fn.ntmps C.ntmps) with
    | false => simp only [hq, cond_false] at h
    | true =>
      simp only [hq, cond_true] at h
      obtain ⟨e, fr, H, h1, h2⟩ := wpE_ang hc hd body _ _ _ h
      have hle : Nat.ble (List.length ([] : Heap)) H.length = true := Nat.ble_eq_true_of_le (Nat.zero_le _)
      cases e with
      | exit id => exact h1.elim
      | normal =>
        simp only [hle, cond_true] at h1
        obtain ⟨vs, h3, h4⟩ := resV_ang fr H _ _ h1
        obtain ⟨v, h5, h6⟩ := outV_ang H vs h3
        refine ⟨v, h5, fun K' h' => ?_⟩
        unfold wpFn
        simp only [hb, hq, cond_true]
        refine h2 _ ?_
        simp only [hle, cond_true]
        exact h4 _ (h6 K' h')
      | ret =>
        simp only [hle, cond_true] at h1
        obtain ⟨vs, h3, h4⟩ := resV_ang fr H _ _ h1
        obtain ⟨v, h5, h6⟩ := outV_ang H vs h3
        refine ⟨v, h5, fun K' h' => ?_⟩
        unfold wpFn
        simp only [hb, hq, cond_true]
        refine h2 _ ?_
        simp only [hle, cond_true]
        exact h4 _ (h6 K' h')

/-! ### what comes out of a call -/
theorem paramsFr_get : ∀ (vs : List V) (i t : Nat), Fr.get (paramsFr i vs) t = if i ≤ t then (vs[t - i]?).getD .undef else .undef
  | [], i, t => by simp [paramsFr, Fr.get]
  | v :: vs, i, t => by
    simp only [paramsFr, Fr.get]
    rw [paramsFr_get vs (i + 1) t]
    cases e : Nat.beq i t with
    | true =>
      have := beq_true e
      subst this
      simp
    | false =>
      have := beq_false e
      simp only [cond_false]
      by_cases h : i ≤ t
      · rw [if_pos h, if_pos (by omega)]
        rw [show t - i = (t - (i + 1)) + 1 by omega]
        simp
      · rw [if_neg h, if_neg (by omega)]

theorem shut1_sound {g : List G} {M : Mem} {w : World} {H : Heap} (hr : HR H g M w) {v v' : V} {c : Value} (hv : VR g M v c) (h : shut1 0 H v = some v') : VR [] (memAll H g M w) v' c := by
  have other : ∀ {u : V}, u = v → (bif immut u then some u else none) = some v' → VR [] (memAll H g M w) v' c := by
    rintro u rfl h
    cases hi : immut u with
    | true =>
      simp only [hi, cond_true, Option.some.injEq] at h
      subst h
      exact (hv.mono (Ext.mem (memAll_le H g M w))).imm hi
    | false => simp only [hi, cond_false] at h; cases h
  cases v <;> simp only [shut1] at h <;> try exact other rfl h
  case obj id ver =>
    have h0 : Nat.blt id 0 = false := by cases id <;> rfl
    simp only [h0, cond_false] at h
    exact view1_sound hr hv (by simpa only [view1] using h)
  case dob id ver =>
    have h0 : Nat.blt id 0 = false := by cases id <;> rfl
    simp only [h0, cond_false] at h
    exact view1_sound hr hv (by simpa only [view1] using h)

theorem shuts1_sound {g : List G} {M : Mem} {w : World} {H : Heap} (hr : HR H g M w) : ∀ {vs vs' : List V} {cs : List Value}, VRs g M vs cs → shuts1 0 H vs = some vs' → VRs [] (memAll H g M w) vs' cs
  | _, _, _, .nil, h => by simp only [shuts1, Option.some.injEq] at h; subst h; exact .nil
  | _, _, _, .cons hv hs, h => by
    simp only [shuts1] at h
    split at h
    · rename_i v' h1
      split at h
      · rename_i vs' h2
        cases h
        exact .cons (shut1_sound hr hv h1) (shuts1_sound hr hs h2)
      · cases h
    · cases h

theorem shut_sound {g : List G} {M : Mem} {w : World} {H : Heap} (hr : HR H g M w) {v v' : V} {c : Value} (hv : VR g M v c) (h : shut 0 H v = some v') : VR [] (memAll H g M w) v' c := by
  cases v <;> simp only [shut] at h <;> try exact shut1_sound hr hv h
  case agg vs =>
    split at h
    · rename_i vs' h1
      cases h
      cases hv with
      | agg _ cs hvs => exact .agg _ cs (shuts1_sound hr hvs h1)
    · cases h

theorem shuts_sound {g : List G} {M : Mem} {w : World} {H : Heap} (hr : HR H g M w) : ∀ {vs vs' : List V} {cs : List Value}, VRs g M vs cs → shuts 0 H vs = some vs' → VRs [] (memAll H g M w) vs' cs
  | _, _, _, .nil, h => by simp only [shuts, Option.some.injEq] at h; subst h; exact .nil
  | _, _, _, .cons hv hs, h => by
    simp only [shuts] at h
    split at h
    · rename_i v' h1
      split at h
      · rename_i vs' h2
        cases h
        exact .cons (shut_sound hr hv h1) (shuts_sound hr hs h2)
      · cases h
    · cases h

theorem mapM_results (P : Program) (w : World) (f : ResultVar → Sem Value) : ∀ (l : List ResultVar) (vs : List Value), List.length l = vs.length →
    (∀ (i : Nat) (r : ResultVar) (v : Value), l[i]? = some r → vs[i]? = some v → (f r).run P w = .ok v w) → (l.mapM f).run P w = .ok vs w
  | [], [], _, _ => rfl
  | r :: l, v :: vs, hl, h => by
    have h0 := h 0 r v rfl rfl
    have ih := mapM_results P w f l vs (by simpa using hl) fun i r v h1 h2 => h (i + 1) r v (by simpa using h1) (by simpa using h2)
    simp [List.mapM_cons, h0, ih]
  | [], v :: vs, hl, _ => by simp at hl
  | r :: l, [], hl, _ => by simp at hl

def resOne (a : Act) : ResultVar → Sem Value
  | .tmp t => Pure.pure (a.tmps.getD t Go.undef)
  | .cell t ty => do loadVar ty (← asAddr (a.tmps.getD t Go.undef))

theorem run_resV (L : LOk P C) {g : List G} {M : Mem} {w : World} {H : Heap} {fr : Fr} {a : Act} (hf : FR C g M fr a) (hr : HR H g M w) : ∀ (l : List ResultVar) (K : List V → Prop), resV C fr H l K →
    ∃ vs vals, K vs ∧ VRs g M vs vals ∧ List.length l = vals.length ∧
      (∀ (i : Nat) (r : ResultVar) (v : Value), l[i]? = some r → vals[i]? = some v → (resOne a r).run P w = .ok v w) := by
  intro l
  induction l with
  | nil => intro K h; exact ⟨[], [], h, .nil, rfl, by simp⟩
  | cons r l ih =>
    intro K h
    cases r with
    | tmp t =>
      simp only [resV] at h
      obtain ⟨vs, vals, h1, h2, h3, h4⟩ := ih _ h
      refine ⟨_, _, h1, .cons (hf.get t) h2, by simp [h3], ?_⟩
      intro i r v hi hv
      cases i with
      | zero => simp at hi hv; subst hi; subst hv; simp [resOne]
      | succ i => exact h4 i r v (by simpa using hi) (by simpa using hv)
    | cell t ty =>
      simp only [resV] at h
      have hx := hf.get t
      obtain ⟨v, val, k1, k2, k3⟩ := loadV_sound (P := P) L hx hr h
      obtain ⟨vs, vals, h1, h2, h3, h4⟩ := ih _ k1
      refine ⟨_, _, h1, .cons k2 h2, by simp [h3], ?_⟩
      intro i r u hi hv
      cases i with
      | zero =>
        simp at hi hv; subst hi; subst hv
        simp only [resOne]
        generalize a.tmps.getD t Go.undef = c at k3
        cases c with
        | pointer ad =>
          cases ad with
          | some ad => simpa [Instr.loadAt, Instr.sureAddr, asAddr] using k3
          | none => simp [Instr.loadAt, Instr.sureAddr] at k3
        | _ => simp [Instr.loadAt, Instr.sureAddr] at k3
      | succ i => exact h4 i r u (by simpa using hi) (by simpa using hv)

theorem run_results {fn : Func} {a : Act} {w : World} {vals : List Value} (hl : fn.results.toList.length = vals.length)
    (h : ∀ (i : Nat) (r : ResultVar) (v : Value), fn.results.toList[i]? = some r → vals[i]? = some v → (resOne a r).run P w = .ok v w) :
    (results fn a.tmps).run P w = .ok (if h : vals.toArray.size = 1 then vals.toArray[0] else .tuple vals.toArray) w := by
  have key := mapM_results P w (resOne a) fn.results.toList vals hl h
  unfold results
  rw [Array.mapM_eq_mapM_toList]
  have e : (fun x => match x with | ResultVar.tmp t => Pure.pure (a.tmps.getD t Go.undef) | ResultVar.cell a_1 t => do loadVar t (← asAddr (a.tmps.getD a_1 Go.undef)) : ResultVar → Sem Value) = resOne a := by
    funext r; cases r <;> rfl
  simp only [Sem.run_bind, Sem.run_map]
  erw [e]
  rw [key]
  rfl

/-- What the evaluator says of a function's body holds of the function. -/
theorem fnOk_of_wpFn (L : LOk P C) (hc : CallsOk0 P C) (hm : P.follows .mixedOrders = true) {k : FuncId} {fn : Func} (hf : P.funcs[k]? = some fn) (hn : (fn.name == "runtime.NumGoroutine") = false) : FnOk P k (wpFn C fn) := by
  intro args K h
  obtain ⟨v, h1, h2⟩ := wpFn_ang hc.ang hc.drawn.ang fn args h
  refine ⟨v, h1, h2, ?_⟩
  intro w M cargs ha hmem hG
  have hw := h2 (fun u hs => u = v ∧ hs = []) ⟨rfl, rfl⟩
  unfold wpFn at hw
  cases hb : fn.body with
  | none => simp only [hb] at hw
  | some body =>
    simp only [hb] at hw
    cases hq : (Nat.ble args.length fn.ntmps && Nat.beq fn.ntmps C.ntmps) with
    | false => simp only [hq, cond_false] at hw
    | true =>
      simp only [hq, cond_true] at hw
      simp only [Bool.and_eq_true] at hq
      have q1 := Nat.le_of_ble_eq_true hq.1
      have q2 := beq_true hq.2
      have hlen := ha.length
      refine .inr ⟨?_, ?_⟩
      · have hn' : ¬ fn.name = "runtime.NumGoroutine" := by simpa using hn
        simp [callFunc, hf, hn', hb]
      · refine calls_of_wp hf hb ?_
        refine wpE_sound (w0 := w) (M0 := M) (own0 := Z.no) L ⟨hG, hc, Nat.zero_le _⟩ hm (Nat.zero_le _) body _ _ _ _ w _ hw ?_ ?_
        · refine ⟨[], M, ⟨fun t => ?_, ?_, rfl⟩, ⟨rfl, by simp, by simp, hmem⟩, ⟨Nat.le_refl _, fun _ _ _ => rfl, ?_, fun _ _ h => h, fun _ _ h => .inl h, rfl, rfl, rfl, fun _ _ h => h.elim⟩⟩
          · rw [paramsFr_get, if_pos (Nat.zero_le _)]
            simp only [Nat.sub_zero]
            cases e : args[t]? with
            | none => exact .undef _
            | some u =>
              obtain ⟨c, hc1, hc2⟩ := ha.get e
              have : (cargs.toArray ++ Array.replicate (fn.ntmps - cargs.toArray.size) Go.undef).getD t Go.undef = c := by
                have hlt := lt_of_get hc1
                simp only [Array.getD_eq_getD_getElem?]
                rw [Array.getElem?_append_left (by simpa using hlt)]
                simp [hc1]
              rw [this]
              exact hc2
          · simp
            omega
          · rintro b ⟨id, o, x, h1, _⟩
            simp at h1
        · rintro e fr' H' hk a' w' ⟨g, M', hfr, hr, hbase⟩
          have hle : Nat.ble (List.length ([] : Heap)) H'.length = true := Nat.ble_eq_true_of_le (Nat.zero_le _)
          have fin : (resV C fr' H' fn.results.toList fun vs => outV 0 H' vs fun u hs => u = v ∧ hs = []) → a'.defers = [] ∧ ∃ u, (results fn a'.tmps).run P w' = .ok u w' ∧
              ∃ u', Ending.returned u = .returned u' ∧ ∃ M', VR [] M' v u' ∧ MemOk M' w' ∧ Frame0 w w' M M' := by
            intro hres
            obtain ⟨vs, vals, p1, p2, p3, p4⟩ := run_resV L hfr hr _ _ hres
            refine ⟨hfr.defers, _, run_results p3 p4, _, rfl, memAll H' g M' w', ?_, memAll_ok hr, ?_⟩
            · unfold outV at p1
              cases hs : shuts 0 H' vs with
              | none => rw [hs] at p1; exact p1.elim
              | some vs' =>
                rw [hs] at p1
                have hv := shuts_sound hr p2 hs
                match vs', p1, hv with
                | [], p1, hv =>
                  cases hv
                  obtain ⟨rfl, _⟩ := p1
                  exact .tuple [] #[] .nil
                | [u], p1, hv =>
                  obtain ⟨rfl, _⟩ := p1
                  cases hv with
                  | cons hc ht =>
                    cases ht
                    exact hc
                | x :: y :: r, p1, hv =>
                  obtain ⟨rfl, _⟩ := p1
                  have hl := hv.length
                  rw [dif_neg (by simp at hl ⊢; omega)]
                  exact .tuple _ _ (by simpa using hv)
            · refine ⟨hbase.size, fun b hb' => hbase.keep b hb' id, fun b cs hb' => memAll_le H' g M' w' b cs (hbase.mle b cs hb'), ?_, hbase.os, hbase.tape, hbase.output⟩
              intro b cs hb'
              unfold memAll at hb'
              split at hb'
              · rename_i cs' hm'
                cases hb'
                rcases hbase.mnew b _ hm' with k | k | k
                · exact .inl k
                · exact k.elim
                · exact .inr k
              · split at hb'
                · rename_i ho
                  rcases hbase.own b ho with k | k
                  · exact k.elim
                  · exact .inr k
                · cases hb'
          cases e with
          | exit id => exact hk.elim
          | normal =>
            simp only [hle, cond_true] at hk
            exact fin hk
          | ret =>
            simp only [hle, cond_true] at hk
            exact fin hk
end
end Go.Ev
