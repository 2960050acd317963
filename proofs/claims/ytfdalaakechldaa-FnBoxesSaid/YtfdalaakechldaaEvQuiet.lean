/- Operations that leave the memory alone, in a greater memory. -/
import Derived.Test.YtfdalaakechldaaEvAng
set_option linter.unusedVariables false
set_option linter.unusedSimpArgs false
namespace Go.Ev

section
variable {C : Ctx} {H X : Heap}
theorem get_ext {id : Nat} {o : Ob} (h : H[id]? = some o) : (H ++ X)[id]? = some o := by
  rw [List.getElem?_append_left]
  · exact h
  · rcases Nat.lt_or_ge id H.length with h' | h'
    · exact h'
    · rw [List.getElem?_eq_none h'] at h; cases h

theorem loadV_ext {t : TypeId} {x : V} {K : V → Prop} (h : loadV C t x H K) : loadV C t x (H ++ X) K := by
  cases x <;> simp only [loadV] at h ⊢ <;> try exact h
  · split at h
    · rename_i cells hid
      rw [get_ext hid]; exact h
    · exact h.elim
  · split at h
    · rename_i v t xs hid
      rw [get_ext hid]; exact h
    · rename_i v t xs hid
      rw [get_ext hid]; exact h
    · exact h.elim
  · split at h
    · rename_i hid
      rw [get_ext hid]; exact h
    · exact h.elim

theorem indexAddrV_ext {t : TypeId} {x ix : V} {K : V → Prop} (h : indexAddrV C t x ix H K) : indexAddrV C t x ix (H ++ X) K := by
  cases ix <;> simp only [indexAddrV] at h ⊢ <;> try exact h
  rename_i k n
  cases hd : (C.ti t).desc <;> simp only [hd] at h ⊢ <;> try exact h
  rename_i e
  cases hq : (Nat.beq (C.ti e).size (C.ti t).ty.size && !Nat.beq (C.ti e).size 0) with
  | false => simp only [hq, cond_false] at h
  | true =>
    simp only [hq, cond_true] at h ⊢
    cases x <;> simp only at h ⊢ <;> try exact h
    · split at h
      · rename_i v t xs hid
        rw [get_ext hid]; exact h
      · rename_i v t xs hid
        rw [get_ext hid]; exact h
      · exact h.elim
    · split at h
      · rename_i hid
        rw [get_ext hid]; exact h
      · exact h.elim

theorem lenV_ext {x : V} {K : V → Prop} (h : lenV x H K) : lenV x (H ++ X) K := by
  cases x <;> simp only [lenV] at h ⊢ <;> try exact h
  · split at h
    · rename_i v t xs hid
      rw [get_ext hid]; exact h
    · rename_i v t xs hid
      rw [get_ext hid]; exact h
    · exact h.elim
  · split at h
    · rename_i hid
      rw [get_ext hid]; exact h
    · exact h.elim
theorem listOf_ext {t : Ty} {v : V} {xs : List t.den} (h : listOf H t v = some xs) : listOf (H ++ X) t v = some xs := by
  cases v <;> simp only [listOf] at h ⊢ <;> try exact h
  split at h
  · rename_i hid
    rw [get_ext hid]; exact h
  · rename_i hid
    rw [get_ext hid]; exact h
  · cases h
theorem bytesToStrV_ext {s d : TypeId} {x : V} {K : V → Prop} (h : bytesToStrV C s d x H K) : bytesToStrV C s d x (H ++ X) K := by
  unfold bytesToStrV at h ⊢
  split at h
  · split at h
    · split at h
      · split at h
        · rename_i xs hxs
          rw [listOf_ext hxs]; exact h
        · exact h.elim
      · exact h.elim
    · exact h.elim
  · exact h.elim
theorem view1_ext {v v' : V} (h : view1 H v = some v') : view1 (H ++ X) v = some v' := by
  cases v <;> simp only [view1] at h ⊢ <;> try exact h
  · split at h
    · rename_i hid
      rw [get_ext hid]; exact h
    · rename_i hid
      rw [get_ext hid]; exact h
    · cases h
  · split at h
    · rename_i hid
      rw [get_ext hid]; exact h
    · cases h
  · split at h
    · rename_i hid
      rw [get_ext hid]; exact h
    · cases h
theorem views1_ext : ∀ {vs vs' : List V}, views1 H vs = some vs' → views1 (H ++ X) vs = some vs'
  | [], _, h => h
  | v :: vs, vs', h => by
    simp only [views1] at h ⊢
    split at h
    · rename_i u hu
      split at h
      · rename_i us hus
        rw [view1_ext hu, views1_ext hus]; exact h
      · cases h
    · cases h
theorem view2_ext {v v' : V} (h : view2 H v = some v') : view2 (H ++ X) v = some v' := by
  cases v <;> simp only [view2] at h ⊢ <;> try exact view1_ext h
  · split at h
    · rename_i us hus
      rw [views1_ext hus]; exact h
    · cases h
  · split at h
    · rename_i cells hid
      rw [get_ext hid]
      simp only
      split at h
      · rename_i us hus
        rw [views1_ext hus]; exact h
      · cases h
    · cases h
  · split at h
    · rename_i hid
      rw [get_ext hid]; exact h
    · rename_i hid
      rw [get_ext hid]; exact h
    · cases h
  · split at h
    · rename_i cells hid
      rw [get_ext hid]; exact h
    · cases h
theorem views2_ext : ∀ {vs vs' : List V}, views2 H vs = some vs' → views2 (H ++ X) vs = some vs'
  | [], _, h => h
  | v :: vs, vs', h => by
    simp only [views2] at h ⊢
    split at h
    · rename_i u hu
      split at h
      · rename_i us hus
        rw [view2_ext hu, views2_ext hus]; exact h
      · cases h
    · cases h
theorem view3_ext {v v' : V} (h : view3 H v = some v') : view3 (H ++ X) v = some v' := by
  cases v <;> simp only [view3] at h ⊢ <;> try exact view2_ext h
  split at h
  · rename_i us hus
    rw [views2_ext hus]; exact h
  · cases h
theorem views3_ext : ∀ {vs vs' : List V}, views3 H vs = some vs' → views3 (H ++ X) vs = some vs'
  | [], _, h => h
  | v :: vs, vs', h => by
    simp only [views3] at h ⊢
    split at h
    · rename_i u hu
      split at h
      · rename_i us hus
        rw [view3_ext hu, views3_ext hus]; exact h
      · cases h
    · cases h

/-- What a quiet operation comes to: its value; the same in a greater memory; the same in any, where it looks at none. -/
def Quiet (C : Ctx) (o : Oper) (ρ : Operand → V) (H : Heap) (K : V → Heap → Prop) : Prop :=
  ∃ v, K v H ∧ (∀ (X : Heap) (K' : V → Heap → Prop), K' v (H ++ X) → evalOpD C o ρ (H ++ X) K') ∧ (kindOf C o.op = .blind → ∀ (H' : Heap) (K' : V → Heap → Prop), K' v H' → evalOpD C o ρ H' K')

theorem quiet_blind {o : Oper} {ρ : Operand → V} {K : V → Heap → Prop} {F : (V → Prop) → Prop} (hF : Ang1 F) (e : ∀ (H' : Heap) (K' : V → Heap → Prop), evalOpD C o ρ H' K' = F (fun v => K' v H')) (h : evalOpD C o ρ H K) : Quiet C o ρ H K := by
  rw [e] at h
  obtain ⟨v, h1, h2⟩ := hF _ h
  exact ⟨v, h1, fun X K' h' => by rw [e]; exact h2 (fun u => K' u (H ++ X)) h', fun _ H' K' h' => by rw [e]; exact h2 (fun u => K' u H') h'⟩

theorem quiet_reads {o : Oper} {ρ : Operand → V} {K : V → Heap → Prop} {F : Heap → (V → Prop) → Prop} (hF : ∀ H', Ang1 (F H')) (hk : kindOf C o.op ≠ .blind) (e : ∀ (H' : Heap) (K' : V → Heap → Prop), evalOpD C o ρ H' K' = F H' (fun v => K' v H'))
    (hx : ∀ (X : Heap) (K' : V → Prop), F H K' → F (H ++ X) K') (h : evalOpD C o ρ H K) : Quiet C o ρ H K := by
  rw [e] at h
  obtain ⟨v, h1, h2⟩ := hF H _ h
  refine ⟨v, h1, fun X K' h' => ?_, fun hb => absurd hb hk⟩
  rw [e]
  obtain ⟨u, rfl, h4⟩ := hF (H ++ X) _ (hx X (fun u => u = v) (h2 _ rfl))
  exact h4 _ h'

theorem noFrz_ext {v : V} (h : noFrz H v = true) : noFrz (H ++ X) v = true := by
  cases v <;> simp only [noFrz] at h ⊢
  rename_i id ver
  split at h
  · rename_i hid
    rw [get_ext hid]
  · cases h

theorem sliceV_still {t : TypeId} {x : V} {lo hi : Option V} {K : V → Heap → Prop} (hn : noFrz H x = true) : sliceV C t x lo hi H K = sliceV C t x lo hi H (fun v _ => K v H) := by
  unfold sliceV
  cases loOf lo with
  | none => rfl
  | some l =>
    simp only
    cases (C.ti t).desc <;> simp only <;> try rfl
    rename_i e
    cases (Nat.beq (C.ti e).size (C.ti t).ty.size && !Nat.beq (C.ti e).size 0) with
    | false => rfl
    | true =>
      simp only [cond_true]
      cases x <;> simp only
      rename_i id ver
      simp only [noFrz] at hn
      split at hn
      · rename_i hid
        rw [hid]
      · cases hn

theorem sliceV_ext {t : TypeId} {x : V} {lo hi : Option V} {K : V → Prop} (hn : noFrz H x = true) (h : sliceV C t x lo hi H (fun v _ => K v)) : sliceV C t x lo hi (H ++ X) (fun v _ => K v) := by
  unfold sliceV at h ⊢
  revert h
  cases loOf lo with
  | none => exact id
  | some l =>
    simp only
    cases (C.ti t).desc <;> simp only <;> try exact id
    rename_i e
    cases (Nat.beq (C.ti e).size (C.ti t).ty.size && !Nat.beq (C.ti e).size 0) with
    | false => exact id
    | true =>
      simp only [cond_true]
      cases x <;> simp only <;> try exact id
      rename_i id ver
      simp only [noFrz] at hn
      split at hn
      · rename_i hid
        rw [hid, get_ext hid]
        exact fun h => h
      · cases hn

theorem quiet_D (hc : CallAng C) (o : Oper) (ρ : Operand → V) (hρ : ∀ f, ρ (.func f) = .fn f []) (H : Heap) (K : V → Heap → Prop) (hq : (kindOf C o.op).eff = false) (h : evalOpD C o ρ H K) : Quiet C o ρ H K := by
  obtain ⟨dst, op, type, pos, after, guard⟩ := o
  cases op <;> simp only [kindOf, Kd.eff] at hq <;> try (cases hq; done)
  case buildSlice t len ps =>
    cases hdr : (C.dr && Nat.beq len 0) with
    | true => exact quiet_blind (F := fun K => buildDr C t len (ps.toList.map fun p => (p.1, ρ p.2)) K) (buildDr_ang t len _) (fun _ _ => by simp only [evalOpD, evalOp]; exact buildSliceV_dr hdr _ _ _) h
    | false =>
      rw [hdr] at hq
      cases hdv : (C.dr && (C.mv && flatTy (C.ti t).ty)) with
      | true => exact quiet_blind (F := fun K => buildDv C t len (ps.toList.map fun p => (p.1, ρ p.2)) K) (buildDv_ang t len _) (fun _ _ => by simp only [evalOpD, evalOp]; exact buildSliceV_dv hdr hdv _ _ _) h
      | false =>
      rw [hdv] at hq
      cases hd : C.deep <;> rw [hd] at hq <;> cases hq
  case move x => exact quiet_blind (F := fun K => K (ρ x)) (ang1_pure _) (fun _ _ => rfl) h
  case assign x => exact quiet_blind (F := fun K => K (ρ x)) (ang1_pure _) (fun _ _ => rfl) h
  case pick c x y =>
    refine quiet_blind (F := fun K => match ρ c with | .bool t => cond t (K (ρ x)) (K (ρ y)) | _ => False) ?_ (fun _ _ => rfl) h
    split
    · exact ang1_cond _ (ang1_pure _) (ang1_pure _)
    · exact ang1_false
  case nilCheck x =>
    refine quiet_blind (F := fun K => match ρ x with | .ptr id off => K (.ptr id off) | .ref cs off => K (.ref cs off) | .eptr id ver i off => K (.eptr id ver i off) | .fn f vs => K (.fn f vs) | _ => False) ?_ (fun _ _ => by simp only [evalOpD, evalOp]; cases ρ x <;> rfl) h
    split <;> first | exact ang1_pure _ | exact ang1_false
  case binOp op t x y yt => exact quiet_blind (F := fun K => binV C op t (ρ x) (ρ y) K) (binV_ang op t _ _) (fun _ _ => rfl) h
  case unOp op t x => exact quiet_blind (F := fun K => unV op (ρ x) K) (unV_ang op _) (fun _ _ => rfl) h
  case convert s d x =>
    cases hk : cvKind C s d with
    | reads => exact quiet_reads (F := fun H' K => bytesToStrV C s d (ρ x) H' K) (fun H' => bytesToStrV_ang s d _ H') (by simp [kindOf, hk]) (fun _ _ => by simp only [evalOpD, evalOp, hk]) (fun X K' h => bytesToStrV_ext h) h
    | alloc => rw [hk] at hq; cases hq
    | blind => exact quiet_blind (F := fun K => convV C s d (ρ x) K) (convV_ang s d _) (fun _ _ => by simp only [evalOpD, evalOp, hk]) h
    | writes => rw [hk] at hq; cases hq
  case fieldAddr s x f => exact quiet_blind (F := fun K => fieldAddrV C s (ρ x) f K) (fieldAddrV_ang s _ f) (fun _ _ => rfl) h
  case field s x f => exact quiet_blind (F := fun K => fieldV C s (ρ x) f K) (fieldV_ang s _ f) (fun _ _ => rfl) h
  case index t x i => exact quiet_blind (F := fun K => indexV C t (ρ x) (ρ i) K) (indexV_ang t _ _) (fun _ _ => rfl) h
  case extract x i => exact quiet_blind (F := fun K => extractV (ρ x) i K) (extractV_ang _ i) (fun _ _ => rfl) h
  case build t ps => exact quiet_blind (F := fun K => buildV C t (ps.toList.map fun p => (p.1, ρ p.2)) K) (buildV_ang t _) (fun _ _ => rfl) h
  case load t x => exact quiet_reads (F := fun H' K => loadV C t (ρ x) H' K) (fun H' => loadV_ang t _ H') (by simp [kindOf]) (fun _ _ => rfl) (fun X K' h => loadV_ext h) h
  case indexAddr t x i => exact quiet_reads (F := fun H' K => indexAddrV C t (ρ x) (ρ i) H' K) (fun H' => indexAddrV_ang t _ _ H') (by simp [kindOf]) (fun _ _ => rfl) (fun X K' h => indexAddrV_ext h) h
  case slice t x lo hi mx =>
    have hct : C.cut = false := by revert hq; cases C.cut <;> simp [Kd.eff]
    cases mx with
    | some m =>
      simp only [evalOpD, evalOp] at h
      cases hn : (C.cut || noFrz H (ρ x)) <;> simp only [hn, cond_true, cond_false] at h
    | none =>
      refine quiet_reads (F := fun H' K => bif noFrz H' (ρ x) then sliceV C t (ρ x) (lo.map ρ) (hi.map ρ) H' (fun v _ => K v) else False) (fun H' => ?_) (by simp [kindOf, hct]) (fun H' K' => ?_) (fun X K' h => ?_) h
      · cases noFrz H' (ρ x) with
        | false => exact ang1_false
        | true =>
          simp only [cond_true]
          intro K1 h1
          obtain ⟨v, H1, h2, h3⟩ := sliceV_ang t _ _ _ H' _ h1
          exact ⟨v, h2, fun K2 h4 => h3 (fun v _ => K2 v) h4⟩
      · simp only [evalOpD, evalOp, hct, Bool.false_or]
        cases hn : noFrz H' (ρ x) with
        | false => rfl
        | true => simp only [cond_true]; exact sliceV_still hn
      · cases hn : noFrz H (ρ x) with
        | false => simp only [hn, cond_false] at h
        | true =>
          simp only [hn, noFrz_ext hn, cond_true] at h ⊢
          exact sliceV_ext hn h
  case call c =>
    obtain ⟨callee, args, argTypes⟩ := c
    cases callee with
    | invoke x m => simp only [kindOf, Kd.eff] at hq; cases hq
    | value f =>
      cases f with
      | func fid =>
        simp only [kindOf] at hq
        have hp : C.pass fid = .view := by
          revert hq
          cases C.pass fid <;> simp [Kd.eff]
        have hcf := hc fid
        simp only [hp] at hcf
        have e : ∀ (H' : Heap) (K' : V → Heap → Prop), evalOpD C ⟨dst, .call ⟨.value (.func fid), args, argTypes⟩, type, pos, after, guard⟩ ρ H' K' = callV C fid (args.toList.map ρ) H' K' := by
          intro H' K'
          simp only [evalOpD, evalOp, hρ, List.append_nil]
        refine quiet_reads (F := fun H' K => callV C fid (args.toList.map ρ) H' (fun v _ => K v)) (fun H' => ?_) (by simp [kindOf, hp]) (fun H' K' => ?_) (fun X K' h => ?_) h
        · intro K1 h1
          obtain ⟨v, H1, h2, _, h3⟩ := callV_ang hc fid _ H' _ h1
          exact ⟨v, h2, fun K2 h4 => h3 (fun v _ => K2 v) h4⟩
        · rw [e]
          unfold callV
          simp only [hp]
        · unfold callV at h ⊢
          simp only [hp] at h ⊢
          cases hi : immuts (args.toList.map ρ) with
          | true =>
            simp only [hi, cond_true] at h ⊢
            exact h
          | false =>
            simp only [hi, cond_false, views3K_eq] at h ⊢
            split at h
            · rename_i as has
              rw [views3_ext has]; exact h
            · exact h.elim
      | tmp n =>
        simp only [evalOpD] at h
        cases hv : viewFn C (ρ (.tmp n)) with
        | false => rw [hv] at h; exact h.elim
        | true =>
          rw [hv, cond_true] at h
          obtain ⟨g, cap, hf⟩ : ∃ g cap, ρ (.tmp n) = .fn g cap := by
            revert hv
            cases ρ (.tmp n) with
            | fn g cap => exact fun _ => ⟨g, cap, rfl⟩
            | _ => exact fun e => by cases e
          have hp : C.pass g = .view := by
            rw [hf] at hv
            unfold viewFn at hv
            simp only at hv
            cases hpp : C.pass g <;> rw [hpp] at hv <;> first | rfl | cases hv
          have e : ∀ (H' : Heap) (K' : V → Heap → Prop), evalOpD C ⟨dst, .call ⟨.value (.tmp n), args, argTypes⟩, type, pos, after, guard⟩ ρ H' K' = callV C g (args.toList.map ρ ++ cap) H' K' := by
            intro H' K'
            simp only [evalOpD, evalOp, hf, viewFn, hp, cond_true]
          refine quiet_reads (F := fun H' K => callV C g (args.toList.map ρ ++ cap) H' (fun v _ => K v)) (fun H' => ?_) (by simp [kindOf]) (fun H' K' => ?_) (fun X K' h => ?_) (by
            simp only [evalOpD, hv, cond_true]
            exact h)
          · intro K1 h1
            obtain ⟨v, H1, h2, _, h3⟩ := callV_ang hc g _ H' _ h1
            exact ⟨v, h2, fun K2 h4 => h3 (fun v _ => K2 v) h4⟩
          · rw [e]
            unfold callV
            simp only [hp]
          · unfold callV at h ⊢
            simp only [hp] at h ⊢
            cases hi : immuts (args.toList.map ρ ++ cap) with
            | true =>
              simp only [hi, cond_true] at h ⊢
              exact h
            | false =>
              simp only [hi, cond_false, views3K_eq] at h ⊢
              split at h
              · rename_i as has
                rw [views3_ext has]; exact h
              · exact h.elim
      | _ => simp only [kindOf, Kd.eff] at hq; cases hq
    | builtin b =>
      cases b <;> simp only [kindOf, Kd.eff] at hq <;> try (cases hq; done)
      case len =>
        have e : ∃ F : Heap → (V → Prop) → Prop, (∀ H', Ang1 (F H')) ∧ (∀ (H' : Heap) (K' : V → Heap → Prop), evalOp C ⟨dst, .call ⟨.builtin .len, args, argTypes⟩, type, pos, after, guard⟩ ρ H' K' = F H' (fun v => K' v H')) ∧ (∀ (X : Heap) (K' : V → Prop), F H K' → F (H ++ X) K') ∧
            ((args.toList.map ρ).all noOb = true → ∀ (H1 H2 : Heap) (K' : V → Prop), F H1 K' = F H2 K') := by
          refine ⟨fun H' K => match args.toList with
            | [x] => match argTypes.toList with
              | [t] => match (C.ti t).desc with
                | .slice _ => lenV (ρ x) H' fun v => K v
                | .string => match ρ x with
                  | .str s => K (.int .i64 s.length)
                  | _ => False
                | .array n _ => bif Nat.ble n 9223372036854775807 then K (.int .i64 n) else False
                | _ => False
              | _ => False
            | _ => False, fun H' => ?_, fun H' K' => ?_, fun X K' => ?_, fun hn H1 H2 K' => ?_⟩
          · repeat' first | exact ang1_false | exact ang1_pure _ | exact lenV_ang _ _ | refine ang1_cond _ ?_ ?_ | split
          · simp only [evalOp]
            rfl
          · split
            · split
              · split
                · exact lenV_ext
                · exact id
                · exact id
                · exact id
              · exact id
            · exact id
          · split
            · rename_i x hx
              rw [hx] at hn
              simp only [List.map_cons, List.map_nil, List.all_cons, List.all_nil, Bool.and_true] at hn
              have : ∀ K0 : V → Prop, lenV (ρ x) H1 K0 = lenV (ρ x) H2 K0 := by
                intro K0
                generalize ρ x = v at hn
                cases v <;> first | rfl | cases hn
              simp only [this]
            · rfl
        obtain ⟨F, e1, e2, e3, e4⟩ := e
        cases hmv : C.mvl with
        | false =>
          have ed : ∀ (H' : Heap) (K' : V → Heap → Prop), evalOpD C ⟨dst, .call ⟨.builtin .len, args, argTypes⟩, type, pos, after, guard⟩ ρ H' K' = F H' (fun v => K' v H') := fun H' K' => by
            simp only [evalOpD, hmv, Bool.not_false, Bool.true_or, cond_true]
            exact e2 H' K'
          exact quiet_reads e1 (by simp [kindOf, hmv]) ed e3 h
        | true =>
          cases hn : (args.toList.map ρ).all noOb with
          | false => simp only [evalOpD, hmv, hn, Bool.not_true, Bool.or_false, cond_false] at h
          | true =>
            refine quiet_blind (F := F H) (e1 H) (fun H' K' => ?_) h
            simp only [evalOpD, hmv, hn, Bool.or_true, cond_true]
            rw [e2 H' K']
            exact e4 hn H' H _
      case max =>
        refine quiet_blind (F := fun K => match args.toList with | [x, y] => maxV (ρ x) (ρ y) K | _ => False) ?_ (fun _ _ => rfl) h
        split
        · exact maxV_ang _ _
        · exact ang1_false
      case min =>
        refine quiet_blind (F := fun K => match args.toList with | [x, y] => minV (ρ x) (ρ y) K | _ => False) ?_ (fun _ _ => rfl) h
        split
        · exact minV_ang _ _
        · exact ang1_false

/-- What an operation with an effect comes to. -/
def AngX (H : Heap) (T : (V → Heap → Prop) → Prop) : Prop := ∀ K, T K → ∃ v X, K v (H ++ X) ∧ ∀ K' : V → Heap → Prop, K' v (H ++ X) → T K'
theorem angX_false {H : Heap} : AngX H (fun _ => False) := fun _ h => h.elim
theorem angX_pure {H : Heap} (v : V) (X : Heap) : AngX H (fun K => K v (H ++ X)) := fun _ h => ⟨v, X, h, fun _ h => h⟩
theorem angX_cond {H : Heap} (b : Bool) {S T : (V → Heap → Prop) → Prop} (h1 : AngX H S) (h2 : AngX H T) : AngX H (fun K => cond b (S K) (T K)) := by
  cases b
  · exact h2
  · exact h1
theorem makeSliceV_x (t : TypeId) (l c : V) (H : Heap) : AngX H (fun K => makeSliceV C t l c H K) := by
  unfold makeSliceV
  repeat' first | exact angX_false | exact angX_pure _ _ | refine angX_cond _ ?_ ?_ | split
theorem buildSliceV_x (hd : C.deep = false) (t : TypeId) (len : Nat) (hr : (C.dr && Nat.beq len 0) = false) (hv : (C.dr && (C.mv && flatTy (C.ti t).ty)) = false) (ps : List (Nat × V)) (H : Heap) : AngX H (fun K => buildSliceV C t len ps H K) := by
  unfold buildSliceV
  simp only [hd, hr, hv, Bool.false_and, cond_false]
  repeat' first | exact angX_false | exact angX_pure _ _ | refine angX_cond _ ?_ ?_ | split
theorem eff_D (hc : CallAng C) (o : Oper) (ρ : Operand → V) (hρ : ∀ f, ρ (.func f) = .fn f []) (H : Heap) (K : V → Heap → Prop) (h : evalOpD C o ρ H K) :
    ∃ v H', K v H' ∧ (∀ K' : V → Heap → Prop, K' v H' → evalOpD C o ρ H K') ∧ (kindOf C o.op = .alloc → ∃ X, H' = H ++ X) := by
  have gen : kindOf C o.op ≠ .alloc → ∃ v H', K v H' ∧ (∀ K' : V → Heap → Prop, K' v H' → evalOpD C o ρ H K') ∧ (kindOf C o.op = .alloc → ∃ X, H' = H ++ X) := by
    intro hk
    by_cases hs : ∃ t x lo hi mx, o.op = .slice t x lo hi mx
    · obtain ⟨t, x, lo, hi, mx, hs⟩ := hs
      simp only [evalOpD, hs] at h
      cases hn : (C.cut || noFrz H (ρ x)) with
      | false => simp only [hn, cond_false] at h
      | true =>
        simp only [hn, cond_true] at h
        obtain ⟨v, H', h1, _, h2⟩ := evalOp_ang hc o ρ hρ H K h
        exact ⟨v, H', h1, fun K' h' => by simp only [evalOpD, hs, hn, cond_true]; exact h2 K' h', fun e => absurd e hk⟩
    by_cases hs2 : ∃ args tys, o.op = .call ⟨.builtin .len, args, tys⟩
    · obtain ⟨args, tys, hs2⟩ := hs2
      simp only [evalOpD, hs2] at h
      cases hn : (!C.mvl || (args.toList.map ρ).all noOb) with
      | false => simp only [hn, cond_false] at h
      | true =>
        simp only [hn, cond_true] at h
        obtain ⟨v, H', h1, _, h2⟩ := evalOp_ang hc o ρ hρ H K h
        exact ⟨v, H', h1, fun K' h' => by simp only [evalOpD, hs2, hn, cond_true]; exact h2 K' h', fun e => absurd e hk⟩
    by_cases hs3 : ∃ n args tys, o.op = .call ⟨.value (.tmp n), args, tys⟩
    · obtain ⟨n, args, tys, hs3⟩ := hs3
      simp only [evalOpD, hs3] at h
      cases hn : viewFn C (ρ (.tmp n)) with
      | false => simp only [hn, cond_false] at h
      | true =>
        simp only [hn, cond_true] at h
        obtain ⟨v, H', h1, _, h2⟩ := evalOp_ang hc o ρ hρ H K h
        exact ⟨v, H', h1, fun K' h' => by simp only [evalOpD, hs3, hn, cond_true]; exact h2 K' h', fun e => absurd e hk⟩
    · have e : ∀ K', evalOpD C o ρ H K' = evalOp C o ρ H K' := by
        intro K'
        unfold evalOpD
        split
        · rename_i n args tys hop
          exact absurd ⟨n, args, tys, hop⟩ hs3
        · rename_i t x lo hi mx hop
          exact absurd ⟨t, x, lo, hi, mx, hop⟩ hs
        · rename_i args tys hop
          exact absurd ⟨args, tys, hop⟩ hs2
        · rfl
      rw [e] at h
      obtain ⟨v, H', h1, _, h2⟩ := evalOp_ang hc o ρ hρ H K h
      exact ⟨v, H', h1, fun K' h' => by rw [e]; exact h2 K' h', fun e => absurd e hk⟩
  by_cases hk : kindOf C o.op = .alloc
  · obtain ⟨dst, op, type, pos, after, guard⟩ := o
    cases op <;> try (refine gen ?_; simp only [kindOf]; intro e; cases e; done)
    case slice => exact gen (by simp only [kindOf]; cases C.cut <;> simp)
    case call c =>
      obtain ⟨callee, args, argTypes⟩ := c
      cases callee with
      | value f =>
        cases f with
        | func fid => exact gen (by simp only [kindOf]; split <;> simp)
        | _ => exact gen (by simp [kindOf])
      | builtin b =>
        cases b
        case len => exact gen (by simp only [kindOf]; cases C.mvl <;> simp)
        all_goals exact gen (by simp [kindOf])
      | invoke x m => exact gen (by simp [kindOf])
    case alloc t =>
      simp only [evalOpD, evalOp] at h
      split at h
      · rename_i e he
        exact ⟨_, _, h, fun K' h' => by simp only [evalOpD, evalOp, he]; exact h', fun _ => ⟨_, rfl⟩⟩
      · rename_i he
        cases hz : !Nat.beq (C.ti t).size 0 with
        | false => simp only [hz, cond_false] at h
        | true =>
          simp only [hz, cond_true] at h
          exact ⟨_, _, h, fun K' h' => by simp only [evalOpD, evalOp, he, hz, cond_true]; exact h', fun _ => ⟨_, rfl⟩⟩
    case convert s d x =>
      have hk' : cvKind C s d = .alloc := hk
      simp only [evalOpD, evalOp, hk'] at h
      unfold strToBytesV at h
      split at h
      · rename_i h1
        split at h
        · rename_i e h2
          split at h
          · rename_i h3
            split at h
            · rename_i l h4
              split at h
              · rename_i h5
                refine ⟨_, _, h, fun K' h' => ?_, fun _ => ⟨_, rfl⟩⟩
                simp only [evalOpD, evalOp, hk', strToBytesV, h1, h2, h3, h4, h5, if_true]
                exact h'
              · exact h.elim
            · exact h.elim
          · exact h.elim
        · exact h.elim
      · exact h.elim
    case box t x =>
      simp only [evalOpD, evalOp] at h
      split at h
      · rename_i vs hv
        exact ⟨_, _, h, fun K' h' => by simp only [evalOpD, evalOp, hv]; exact h', fun _ => ⟨_, rfl⟩⟩
      · exact h.elim
    case buildSlice t len ps =>
      have hdr : (C.dr && Nat.beq len 0) = false := by
        simp only [kindOf] at hk
        cases hd : (C.dr && Nat.beq len 0) with
        | false => rfl
        | true => rw [hd] at hk; cases hk
      have hdv : (C.dr && (C.mv && flatTy (C.ti t).ty)) = false := by
        simp only [kindOf, hdr, cond_false] at hk
        cases hd : (C.dr && (C.mv && flatTy (C.ti t).ty)) with
        | false => rfl
        | true => rw [hd] at hk; cases hk
      have hdp : C.deep = false := by
        simp only [kindOf, hdr, hdv, cond_false] at hk
        cases hd : C.deep with
        | false => rfl
        | true => rw [hd] at hk; cases hk
      simp only [evalOpD, evalOp] at h
      obtain ⟨v, X, h1, h2⟩ := buildSliceV_x hdp t len hdr hdv _ H _ h
      exact ⟨v, _, h1, fun K' h' => by simp only [evalOpD, evalOp]; exact h2 _ h', fun _ => ⟨X, rfl⟩⟩
    case makeSlice t l c =>
      simp only [evalOpD, evalOp] at h
      obtain ⟨v, X, h1, h2⟩ := makeSliceV_x t _ _ H _ h
      exact ⟨v, _, h1, fun K' h' => by simp only [evalOpD, evalOp]; exact h2 _ h', fun _ => ⟨X, rfl⟩⟩
  · exact gen hk

/-- What the order's evaluation says, the plain one says. -/
theorem evalOp_of_D {o : Oper} {ρ : Operand → V} {K : V → Heap → Prop} (h : evalOpD C o ρ H K) : evalOp C o ρ H K := by
  unfold evalOpD at h
  split at h
  · rename_i n args tys hop
    cases hn : viewFn C (ρ (.tmp n)) with
    | false => simp only [hn, cond_false] at h
    | true => simp only [hn, cond_true] at h; exact h
  · rename_i t x lo hi mx hop
    cases hn : (C.cut || noFrz H (ρ x)) with
    | false => simp only [hn, cond_false] at h
    | true => simp only [hn, cond_true] at h; exact h
  · rename_i args tys hop
    cases hn : (!C.mvl || (args.toList.map ρ).all noOb) with
    | false => simp only [hn, cond_false] at h
    | true => simp only [hn, cond_true] at h; exact h
  · exact h
end
end Go.Ev
