/- Each operation, as the walk meets it. -/
import Derived.Test.YtfdalaakechldaaEvConv
set_option linter.unusedVariables false
set_option linter.unusedSimpArgs false
namespace Go.Ev

def Post (w0 : World) (M0 : Mem) (own0 : Z) (g : List G) (M : Mem) (o : Oper) (a : Act) (K : V → Heap → Prop) (Kn : Act → World → Prop) : Prop :=
  ∀ v H', K v H' → ∀ val g' M' w', VR g' M' v val → HR H' g' M' w' → Base w0 M0 own0 H' g' M' w' → Ext g M g' M' → Kn (a.put o.dst val) w'

theorem Oper.wp_value {P : Program} {o : Oper} {a : Act} {w w' : World} {val : Value} {Kn : Act → World → Prop} {Q : Exit → Act → World → Prop} (h : (execOp a.eval o).run P w = .ok (.value val) w') (hk : Kn (a.put o.dst val) w') : o.wp P a w Kn Q := by
  unfold Oper.wp
  rw [h]
  exact hk

theorem wp_callsX {P : Program} {o : Oper} {a : Act} {w : World} {f : FuncId} {args : Array Value} {R : Value → World → Prop} {Kn : Act → World → Prop} {Q : Exit → Act → World → Prop}
    (he : (execOp a.eval o).run P w = (callFunc f args).run P w) (h : CallsX P f args w R) (hk : ∀ v w', R v w' → Kn (a.put o.dst v) w') : o.wp P a w Kn Q := by
  rcases h with ⟨v, w', h1, h2⟩ | ⟨h1, h2⟩
  · exact Oper.wp_value (he.trans h1) (hk _ _ h2)
  · unfold Oper.wp
    rw [he, h1]
    exact h2.mono fun e w' ⟨v, e1, e2⟩ => by subst e1; exact hk _ _ e2

theorem nat_range {n : Nat} (h : n ≤ 9223372036854775807) : IntKind.i64.min ≤ (n : Int) ∧ (n : Int) ≤ IntKind.i64.max := by
  have e1 : IntKind.i64.min = -9223372036854775808 := rfl
  have e2 : IntKind.i64.max = 9223372036854775807 := rfl
  omega

theorem evalOp_sound {P : Program} {C : Ctx} {M0 : Mem} {own0 : Z} (L : LOk P C) (hc : CallsOk P C M0 own0) {g : List G} {M : Mem} {w : World} {H : Heap} {w0 : World} {o : Oper} {a : Act} {ρ : Operand → V} {K : V → Heap → Prop}
    (h : evalOp C o ρ H K) (hρ : ∀ x ∈ o.op.operands, VR g M (ρ x) (a.eval x)) (hr : HR H g M w) (hb : Base w0 M0 own0 H g M w) {Kn : Act → World → Prop} {Q : Exit → Act → World → Prop}
    (hp : Post w0 M0 own0 g M o a K Kn) : o.wp P a w Kn Q := by
  -- an operation that leaves the memory as it is
  have still : ∀ {s : Sem Value}, (execOp a.eval o).run P w = (do Pure.pure (Next.value (← s)) : Sem Next).run P w → SemOk P g M w s (fun v => K v H) → o.wp P a w Kn Q := by
    rintro s he ⟨v, val, w', k1, k2, k3, k4⟩
    refine Oper.wp_value (val := val) (w' := w') (by rw [he]; simp [k3]) ?_
    exact hp v H k1 val g M w' k2 (hr.same k4.heap) (hb.same k4.heap k4.os k4.tape k4.output) (Ext.refl g M)
  have plain : ∀ {v : V} {val : Value}, (execOp a.eval o).run P w = .ok (.value val) w → VR g M v val → K v H → o.wp P a w Kn Q := fun he hv hk =>
    Oper.wp_value he (hp _ _ hk _ g M w hv hr hb (Ext.refl g M))
  obtain ⟨dst, op, type, pos, after, guard⟩ := o
  cases op
  case move x => exact plain (v := ρ x) rfl (hρ x (by simp [Op.operands])) h
  case assign x => exact plain (v := ρ x) rfl (hρ x (by simp [Op.operands])) h
  case pick c x y =>
    simp only [evalOp] at h
    have hc' := hρ c (by simp [Op.operands])
    have hx' := hρ x (by simp [Op.operands])
    have hy' := hρ y (by simp [Op.operands])
    cases hcc : ρ c <;> rw [hcc] at h hc' <;> simp only at h <;> try exact h.elim
    rename_i t
    cases e : a.eval c <;> rw [e] at hc' <;> cases hc'
    cases t
    · simp only [cond_false] at h
      exact plain (by simp [execOp, e, asBool]) hy' h
    · simp only [cond_true] at h
      exact plain (by simp [execOp, e, asBool]) hx' h
  case alloc t =>
    simp only [evalOp] at h
    split at h
    · rename_i e he
      exact bld_alloc L hr hb he h fun v H' hk val g' w' p0 p1 p2 p3 p4 => Oper.wp_value (by simp only [execOp, Sem.run_bind, p0, Result.andThen_ok]; rfl) (hp v H' hk val g' M w' p1 p2 p3 p4)
    · rename_i he
      cases hz : !Nat.beq (C.ti t).size 0 with
      | false => simp only [hz, cond_false] at h
      | true =>
        simp only [hz, cond_true] at h
        have F := L.get (t := t) (.inr (fun e => by rw [e] at hz; cases hz))
        have hownb : ∀ b, ownB (.box (zeroCells (C.ti t))) (.box w.heap.size) b → b = w.heap.size := by
          intro b hb'; simp [ownB] at hb'; exact hb'.symm
        have hE := Ext.snoc g M (.box w.heap.size)
        refine Oper.wp_value (val := .pointer (some ⟨w.heap.size, 0, none⟩)) (w' := w.alloc (.cells (C.ti t).zero.cells t)) ?_ ?_
        · simp [execOp, Instr.alloc, F.run_zeroValue, newVar, newRow]
        · refine hp _ _ h _ (g ++ [.box w.heap.size]) M _ ?_ (hr.push ?_ hownb) (hb.push hr.len hownb) hE
          · exact .ptr _ 0 _ (by rw [hr.len, List.getElem?_append_right (Nat.le_refl _)]; simp)
          · simp only [ObOk]
            refine ⟨_, t, (0, 0), by show (w.heap.push _)[_]? = _; simp, (VRs_ofVal1 g M _).mono hE, clear_zero _, ?_⟩
            cases hm : M w.heap.size with
            | none => rfl
            | some cs' =>
              obtain ⟨c', T', fz', k1, k2⟩ := hr.mem _ _ hm
              have := lt_of_cells k1
              omega
  case box t x =>
    simp only [evalOp] at h
    have hx' := hρ x (by simp [Op.operands])
    split at h
    · rename_i vs hv
      have hvs := cellsOf_sound hx' hv
      have hownb : ∀ b, ownB (.box vs) (.box w.heap.size) b → b = w.heap.size := by
        intro b hb'; simp [ownB] at hb'; exact hb'.symm
      have hE := Ext.snoc g M (.box w.heap.size)
      refine Oper.wp_value (val := .pointer (some ⟨w.heap.size, 0, none⟩)) (w' := w.alloc (.cells (a.eval x).cells t)) ?_ ?_
      · simp [execOp, Instr.box, newVar, newRow]
      · refine hp _ _ h _ (g ++ [.box w.heap.size]) M _ ?_ (hr.push ?_ hownb) (hb.push hr.len hownb) hE
        · exact .ptr _ 0 _ (by rw [hr.len, List.getElem?_append_right (Nat.le_refl _)]; simp)
        · simp only [ObOk]
          refine ⟨_, t, (0, 0), by show (w.heap.push _)[_]? = _; simp, hvs.mono hE, clear_zero _, ?_⟩
          cases hm : M w.heap.size with
          | none => rfl
          | some cs' =>
            obtain ⟨c', T', fz', k1, k2⟩ := hr.mem _ _ hm
            have := lt_of_cells k1
            omega
    · exact h.elim
  case build t ps =>
    simp only [evalOp] at h
    refine still (s := Instr.build t (ps.map fun (i, x) => (i, a.eval x))) rfl (buildV_sound L ps ρ a.eval ?_ h)
    intro p hp'
    exact hρ p.2 (by simp only [Op.operands]; rw [List.mem_toArray, List.mem_map]; exact ⟨p, hp', rfl⟩)
  case buildSlice t len ps =>
    simp only [evalOp] at h
    obtain ⟨v, H', val, g', M', w', k1, k2, k3, k4, k5, k6⟩ := buildSliceV_sound L hr hb ps ρ a.eval (fun p hp' => hρ p.2 (by simp only [Op.operands]; rw [List.mem_toArray, List.mem_map]; exact ⟨p, hp', rfl⟩)) h
    exact Oper.wp_value (by simp only [execOp, Sem.run_bind, k2, Result.andThen_ok]; rfl) (hp v H' k1 val g' M' w' k3 k4 k5 k6)
  case load t x => exact still rfl (loadV_sound L (hρ x (by simp [Op.operands])) hr h).ok
  case store t x y =>
    simp only [evalOp] at h
    obtain ⟨H', w', g', k1, k2, k3, k4, k5⟩ := storeV_sound L (hρ x (by simp [Op.operands])) (hρ y (by simp [Op.operands])) hr hc.2.2 hb h
    have := hp (.tuple []) H' k1 undef g' M w' (.tuple [] #[] .nil) k3 k4 k5
    unfold Oper.wp
    have he : (execOp a.eval ⟨dst, .store t x y, type, pos, after, guard⟩).run P w = .ok .skip w' := by simp [execOp, k2]
    rw [he]
    exact this
  case nilCheck x =>
    simp only [evalOp] at h
    have hx' := hρ x (by simp [Op.operands])
    cases hxx : ρ x <;> rw [hxx] at h hx' <;> simp only at h <;> try exact h.elim
    all_goals
      cases e : a.eval x <;> rw [e] at hx' <;> try (cases hx'; done)
    · rename_i cells off ad
      cases hx'
      rename_i b base o cs h1 h2 h3
      exact plain (by simp [execOp, e]) (.ref cells b base off o cs h1 h2 h3) h
    · rename_i id off ad
      cases hx'
      rename_i b h1
      exact plain (by simp [execOp, e]) (.ptr id off b h1) h
    · rename_i id ver i off ad
      cases hx'
      rename_i ver' sz b o hh h1 h2 h3 h4
      exact plain (by simp [execOp, e]) (.eptr id ver ver' sz i off b o hh h1 h2 h3 h4) h
    · rename_i f vs fn first cap
      cases hx'
      rename_i h1
      exact plain (by simp [execOp, e]) (.fn f vs cap h1) h
  case binOp op t x y yt => exact still rfl (binV_sound L op t (hρ x (by simp [Op.operands])) (hρ y (by simp [Op.operands])) h x y)
  case unOp op t x => exact still rfl (unV_sound op (hρ x (by simp [Op.operands])) h)
  case convert s d x =>
    simp only [evalOp] at h
    cases hk : cvKind C s d with
    | reads => simp only [hk] at h; exact still rfl (bytesToStrV_sound L hr (hρ x (by simp [Op.operands])) h)
    | alloc =>
      simp only [hk] at h
      obtain ⟨v, H', val, g', M', w', k1, k2, k3, k4, k5, k6⟩ := strToBytesV_sound L hr hb (hρ x (by simp [Op.operands])) h
      exact Oper.wp_value (by simp only [execOp, Sem.run_bind, k2, Result.andThen_ok]; rfl) (hp v H' k1 val g' M' w' k3 k4 k5 k6)
    | blind => simp only [hk] at h; exact still rfl (convV_sound L s d (hρ x (by simp [Op.operands])) h)
    | writes => simp only [hk] at h; exact still rfl (convV_sound L s d (hρ x (by simp [Op.operands])) h)
  case fieldAddr s x f => exact still rfl (fieldAddrV_sound L (hρ x (by simp [Op.operands])) h)
  case field s x f => exact still rfl (fieldV_sound L (hρ x (by simp [Op.operands])) h)
  case indexAddr t x i => exact still rfl (indexAddrV_sound L (hρ x (by simp [Op.operands])) (hρ i (by simp [Op.operands])) hr h)
  case index t x i => exact still rfl (indexV_sound L (hρ x (by simp [Op.operands])) (hρ i (by simp [Op.operands])) h)
  case extract x i => exact still rfl (extractV_sound (hρ x (by simp [Op.operands])) h)
  case makeFunc fn first cap =>
    simp only [evalOp] at h
    split at h
    · rename_i f
      cases hz : Nat.beq first.size 0 with
      | false => simp only [hz, cond_false] at h
      | true =>
        simp only [hz, cond_true] at h
        have hf : first = #[] := by
          have := beq_true hz
          exact Array.eq_empty_of_size_eq_zero this
        subst hf
        refine plain (val := .func (.func f) #[] (cap.map a.eval)) (by simp [execOp, Instr.makeFunc]) (.fn f _ _ ?_) h
        have : ∀ l : List Operand, (∀ x ∈ l, VR g M (ρ x) (a.eval x)) → VRs g M (l.map ρ) (l.map a.eval) := by
          intro l
          induction l with
          | nil => intro _; exact .nil
          | cons x l ih => intro hl; exact .cons (hl x (by simp)) (ih fun y hy => hl y (by simp [hy]))
        rw [Array.toList_map]
        exact this _ fun x hx => hρ x (by simp [Op.operands]; simpa using hx)
    · exact h.elim
  case makeSlice t l c =>
    simp only [evalOp] at h
    obtain ⟨v, H', val, g', M', w', k1, k2, k3, k4, k5, k6⟩ := makeSliceV_sound L hr hb (hρ l (by simp [Op.operands])) (hρ c (by simp [Op.operands])) h
    exact Oper.wp_value (by simp only [execOp, Sem.run_bind, k2, Result.andThen_ok]; rfl) (hp v H' k1 val g' M' w' k3 k4 k5 k6)
  case slice t x lo hi mx =>
    cases mx with
    | some m => simp only [evalOp] at h
    | none =>
      simp only [evalOp] at h
      obtain ⟨v, H', val, g', M', w', k1, k2, k3, k4, k5, k6⟩ := sliceV_sound (ev := a.eval) L hc.2.2 hr hb (hρ x (by simp [Op.operands])) (fun y hy => hρ y (by subst hy; simp [Op.operands])) (fun y hy => hρ y (by subst hy; simp [Op.operands])) h
      exact Oper.wp_value (by simp only [execOp, Sem.run_bind, Option.map_none, k2, Result.andThen_ok]; rfl) (hp v H' k1 val g' M' w' k3 k4 k5 k6)
  case call c =>
    obtain ⟨callee, args, argTypes⟩ := c
    cases callee with
    | value f =>
      simp only [evalOp] at h
      have hf' := hρ f (by simp [Op.operands, Call.operands])
      cases hff : ρ f <;> rw [hff] at h hf' <;> simp only at h <;> try exact h.elim
      rename_i fid cap
      cases e : a.eval f <;> rw [e] at hf' <;> try (cases hf'; done)
      rename_i fn first caps
      cases hf'
      rename_i hcap
      have hargs : VRs g M (args.toList.map ρ ++ cap) ((args.map a.eval).toList ++ caps.toList) := by
        refine VRs.append ?_ hcap
        have : ∀ l : List Operand, (∀ x ∈ l, VR g M (ρ x) (a.eval x)) → VRs g M (l.map ρ) (l.map a.eval) := by
          intro l
          induction l with
          | nil => intro _; exact .nil
          | cons x l ih => intro hl; exact .cons (hl x (by simp)) (ih fun y hy => hl y (by simp [hy]))
        rw [Array.toList_map]
        exact this _ fun x hx => hρ x (by simp [Op.operands, Call.operands]; right; simpa using hx)
      obtain ⟨v, H', k1, k2⟩ := callV_sound hc hr hb hargs h
      refine wp_callsX (f := fid) (args := args.map a.eval ++ caps) ?_ (by rw [show args.map a.eval ++ caps = ((args.map a.eval).toList ++ caps.toList).toArray by simp]; exact k2) ?_
      · simp [execOp, resolve, e, Deferred.ofValue, invoke]
      · rintro val w' ⟨g', M', p1, p2, p3, p4⟩
        exact hp v H' k1 val g' M' w' p1 p2 p3 p4
    | builtin b =>
      cases b
      case len =>
        simp only [evalOp] at h
        split at h
        · rename_i x hx
          split at h
          · rename_i t ht
            have hx' := hρ x (by simp [Op.operands, Call.operands]; rw [← Array.mem_toList_iff, hx]; simp)
            have hargs : args = #[x] := by apply Array.ext'; simpa using hx
            have htypes : argTypes = #[t] := by apply Array.ext'; simpa using ht
            subst hargs
            subst htypes
            have run : ∀ n : Nat, (Builtin.len_ #[t] type #[a.eval x]).run P w = .ok (.int .i64 n) w → (execOp a.eval ⟨dst, .call ⟨.builtin .len, #[x], #[t]⟩, type, pos, after, guard⟩).run P w = .ok (.value (.int .i64 n)) w := by
              intro n hn
              simp [execOp, resolve, invoke, builtin, hn]
            split at h
            · rename_i e hd
              have F := (L.get (t := t) (.inl (by rw [hd]; simp))).under
              rw [hd] at F
              have slc : ∀ {ad : Option Addr} {n cap : Nat}, a.eval x = .slice ad n cap → n ≤ 9223372036854775807 → K (.int .i64 n) H → Oper.wp P ⟨dst, .call ⟨.builtin .len, #[x], #[t]⟩, type, pos, after, guard⟩ a w Kn Q := fun he hle hk =>
                plain (run _ (by simp [Builtin.len_, Go.run_underlying F, he, goInt])) (.int _ _ (nat_range hle)) hk
              unfold lenV at h
              cases hxx : ρ x <;> rw [hxx] at h hx' <;> simp only at h <;> try exact h.elim
              · cases e : a.eval x <;> rw [e] at hx' <;> try (cases hx'; done)
                cases hx' with
                | vecnil => exact slc e (Nat.zero_le _) h
                | vec _ _ b off n cap cs p1 p2 p3 p4 => obtain ⟨rfl, p2'⟩ := p2; exact slc e p2' h
              · cases e : a.eval x <;> rw [e] at hx' <;> cases hx'
                exact slc e (Nat.zero_le _) h
              · rename_i id ver
                cases hx' with
                | obj _ _ ver' sz hh _ h1 h2 h3 h4 =>
                  split at h
                  · rename_i ver2 ty xs hid
                    have ho := hr.ob id _ _ hid h1
                    simp only [ObOk] at ho
                    cases hbq : Nat.beq ver ver2 with
                    | false => simp [hbq] at h
                    | true =>
                      simp only [hbq, cond_true] at h
                      have e1 := h3 (by rw [ho.1]; exact beq_true hbq)
                      rcases ho.2.2.2 with ⟨rfl, rfl⟩ | ⟨b, cap, c, T, fz, rfl, _⟩
                      · exact slc e1 (Nat.zero_le _) h
                      · exact slc e1 ho.2.2.1.2 h
                  · rename_i ver2 ty xs hid
                    have ho := hr.ob id _ _ hid h1
                    simp only [ObOk] at ho
                    cases hbq : Nat.beq ver ver2 with
                    | false => simp [hbq] at h
                    | true =>
                      simp only [hbq, cond_true] at h
                      have e1 := h3 (by rw [ho.1]; exact beq_true hbq)
                      cases ho.2.2 with
                      | vecnil => exact slc e1 (Nat.zero_le _) h
                      | vec _ _ b off n cap cs p1 p2 p3 p4 => obtain ⟨rfl, p2'⟩ := p2; exact slc e1 p2' h
                  · exact h.elim
              · cases e : a.eval x <;> rw [e] at hx' <;> try (cases hx'; done)
                cases hx' with
                | empty _ _ ad cap _ => exact slc e (Nat.zero_le _) h
              · rename_i id ver
                cases hx' with
                | dob _ _ ver' iv sz bs ih hh _ h1 h2 h3 h4 =>
                  split at h
                  · rename_i ver2 iv2 ty xs hid
                    have ho := hr.ob id _ _ hid h1
                    simp only [ObOk] at ho
                    obtain ⟨⟨rfl, rfl, rfl⟩, hdc, _⟩ := ho
                    cases hv : Nat.beq ver ver' with
                    | false => simp [hv] at h
                    | true =>
                      simp only [hv, cond_true] at h
                      have e1 := h3 (beq_true hv)
                      obtain ⟨v0, hv0, hlen, _, ⟨e0, rfl, _⟩ | ⟨b, cap, ce, T, fz, bss, e0, _⟩⟩ := hdc
                      · cases hv0
                        exact slc (e1.trans e0) (Nat.zero_le _) h
                      · cases hv0
                        exact slc (e1.trans e0) hlen h
                  · exact h.elim
            · rename_i hd
              have F := (L.get (t := t) (.inl (by rw [hd]; simp))).under
              rw [hd] at F
              split at h
              · rename_i s hs
                rw [hs] at hx'
                cases e : a.eval x <;> rw [e] at hx' <;> cases hx'
                rename_i s' hl2 hl
                subst hl
                refine plain (run s'.data.toList.length (by rw [← size_eq_length]; simp only [Builtin.len_, List.getElem?_toArray, List.getElem?_cons_zero, Sem.run_bind, Go.run_underlying F, e, goInt, Result.andThen_ok, Sem.run_pure])) (.int _ _ (nat_range hl2)) h
              · exact h.elim
            · rename_i n e hd
              have F := (L.get (t := t) (.inl (by rw [hd]; simp))).under
              rw [hd] at F
              cases hn : Nat.ble n 9223372036854775807 with
              | false => simp only [hn, cond_false] at h
              | true =>
                simp only [hn, cond_true] at h
                exact plain (run n (by simp [Builtin.len_, Go.run_underlying F, goInt])) (.int _ _ (nat_range (Nat.le_of_ble_eq_true hn))) h
            · exact h.elim
          · exact h.elim
        · exact h.elim
      case append =>
        simp only [evalOp] at h
        split at h
        · rename_i x y hx
          split at h
          · rename_i t u ht
            cases hbq : Nat.beq t u with
            | false =>
              simp only [hbq, cond_false] at h
              have harr : args = #[x, y] := by cases args; simp_all
              have htar : argTypes = #[t, u] := by cases argTypes; simp_all
              subst harr
              subst htar
              obtain ⟨v, H', val, g', M', w', k1, k2, k3, k4, k5, k6⟩ := appendZ_sound (ty := type) L hr hb (hρ x (by simp [Op.operands, Call.operands])) (hρ y (by simp [Op.operands, Call.operands])) h
              exact Oper.wp_value (by simp [execOp, resolve, invoke, builtin, k2]) (hp v H' k1 val g' M' w' k3 k4 k5 k6)
            | true =>
              simp only [hbq, cond_true] at h
              have htu := beq_true hbq
              subst htu
              have harr : args = #[x, y] := by cases args; simp_all
              have htar : argTypes = #[t, t] := by cases argTypes; simp_all
              subst harr
              subst htar
              obtain ⟨v, H', val, g', M', w', k1, k2, k3, k4, k5, k6⟩ := appendV_sound (ty := type) L hc.2.2 hr hb (hρ x (by simp [Op.operands, Call.operands])) (hρ y (by simp [Op.operands, Call.operands])) h
              exact Oper.wp_value (by simp [execOp, resolve, invoke, builtin, k2]) (hp v H' k1 val g' M' w' k3 k4 k5 k6)
          · exact h.elim
        · exact h.elim
      case cap =>
        simp only [evalOp] at h
        split at h
        · rename_i x hx
          split at h
          · rename_i t ht
            split at h
            · rename_i e hd
              split at h
              · rename_i hn
                have hx' := hρ x (by simp [Op.operands, Call.operands]; rw [← Array.mem_toList_iff, hx]; simp)
                rw [hn] at hx'
                have hargs : args = #[x] := by apply Array.ext'; simpa using hx
                have htypes : argTypes = #[t] := by apply Array.ext'; simpa using ht
                subst hargs
                subst htypes
                have F := (L.get (t := t) (.inl (by rw [hd]; simp))).under
                rw [hd] at F
                cases e : a.eval x <;> rw [e] at hx' <;> cases hx'
                refine plain (val := .int .i64 0) (by simp [execOp, resolve, invoke, builtin, Builtin.cap_, Go.run_underlying F, e, goInt]) (.int _ _ (by decide)) h
              · exact h.elim
            · exact h.elim
          · exact h.elim
        · exact h.elim
      case max =>
        simp only [evalOp] at h
        split at h
        · rename_i x y hx
          have harr : args = #[x, y] := by cases args; simp_all
          subst harr
          obtain ⟨v, val, k1, k2, k3⟩ := maxV_sound (P := P) (w := w) (ts := argTypes) (ty := type) (hρ x (by simp [Op.operands, Call.operands])) (hρ y (by simp [Op.operands, Call.operands])) h
          exact plain (by simp [execOp, resolve, invoke, builtin, k3]) k2 k1
        · exact h.elim
      case min =>
        simp only [evalOp] at h
        split at h
        · rename_i x y hx
          have harr : args = #[x, y] := by cases args; simp_all
          subst harr
          obtain ⟨v, val, k1, k2, k3⟩ := minV_sound (P := P) (w := w) (ts := argTypes) (ty := type) (hρ x (by simp [Op.operands, Call.operands])) (hρ y (by simp [Op.operands, Call.operands])) h
          exact plain (by simp [execOp, resolve, invoke, builtin, k3]) k2 k1
        · exact h.elim
      all_goals (simp only [evalOp] at h)
    | invoke x m => simp only [evalOp] at h
  all_goals (simp only [evalOp] at h)

end Go.Ev
