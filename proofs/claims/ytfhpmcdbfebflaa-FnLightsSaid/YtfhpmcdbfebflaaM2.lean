/- Merged texts: EvConv EvOp EvCode EvQuiet EvDraw EvLate EvFn. -/
import Derived.Test.YtfhpmcdbfebflaaM1
import Derived.Laws.IdiomStrings
/- Bytes and strings, turned into one another; and a Builder that is made. -/
set_option linter.unusedVariables false
set_option linter.unusedSimpArgs false
namespace Go.Ev

section
variable {P : Program} {C : Ctx} {g : List G} {M : Mem} {w : World} {H : Heap}

theorem foldl_push_ints : ∀ (ns : List Int) (r : ByteArray), ns.foldl (fun r n => r.push (UInt8.ofNat n.toNat)) r = ⟨r.data ++ (toU8 ns).toArray⟩
  | [], r => by simp [toU8]
  | n :: ns, r => by
    simp only [List.foldl_cons]
    rw [foldl_push_ints ns]
    simp [ByteArray.push, toU8]

theorem u8_cells {ns : List Int} {news : List Value} (h : Chunks g M (.int .u8) ns news) (hl : news.length = ns.length * 1) : news = ns.map (Value.int .u8) := by
  apply List.ext_getElem?
  intro i
  rw [List.getElem?_map]
  cases e : ns[i]? with
  | none =>
    have : ns.length ≤ i := by
      rcases Nat.lt_or_ge i ns.length with h' | h'
      · rw [List.getElem?_eq_getElem h'] at e; cases e
      · exact h'
    rw [List.getElem?_eq_none (by omega)]; rfl
  | some n =>
    have h1 := h i n e
    have hi := lt_of_get e
    simp only [enc, Ty.size, Nat.mul_one] at h1
    cases e2 : news[i]? with
    | none =>
      exfalso
      have : i < news.length := by omega
      rw [List.getElem?_eq_getElem this] at e2; cases e2
    | some c =>
      have e3 : (news.drop i).take 1 = [c] := by
        apply List.ext_getElem?
        intro j
        rw [List.getElem?_take, List.getElem?_drop]
        cases j with
        | zero => simp [e2]
        | succ j => simp
      rw [e3] at h1
      cases h1 with
      | cons a b => cases a; rfl

theorem bytesToStrV_sound (L : LOk P C) (hr : HR H g M w) {s d : TypeId} {x : V} {c : Value} (hx : VR g M x c) {K : V → Prop} (h : bytesToStrV C s d x H K) : SemOk P g M w (convert s d c) K := by
  unfold bytesToStrV at h
  split at h
  · rename_i e hs
    split at h
    · rename_i hd
      split at h
      · rename_i he
        split at h
        · rename_i xs hxs
          obtain ⟨ad, cap, news, hL⟩ := listOf_sound hr hx hxs
          have Fs := (L.get (t := s) (.inl (by rw [hs]; simp))).under
          rw [hs] at Fs
          have Fd := (L.get (t := d) (.inl (by rw [hd]; simp))).under
          rw [hd] at Fd
          have Fe := (L.get (t := e) (.inl (by rw [he]; simp))).under
          rw [he] at Fe
          have hnews := u8_cells hL.chunks hL.len
          have hv := hL.val
          subst hv
          refine SemOk.pure (v := .str (toU8 xs)) (val := .string ⟨(toU8 xs).toArray⟩) h (.str _ _ rfl (by simp [toU8]; exact hL.small)) ?_
          rw [run_convert_bytes_string w s d e ad xs.length cap Fs Fe Fd]
          rcases hL.cells with ⟨rfl, rfl⟩ | ⟨a, rfl, hc⟩
          · cases ad with
            | none => simp [Conv.bytesToString, toU8]; rfl
            | some a => simp [Conv.bytesToString, loadCells, loadCellsFrom, toU8]; rfl
          · have hld := run_loadCells_list (P := P) w a news hc
            rw [hL.len] at hld
            simp only [Ty.size, Nat.mul_one] at hld
            rw [hnews] at hld
            rw [run_bytesToString w a xs.length cap xs hld, foldl_push_ints]
            have : ByteArray.empty.data = #[] := rfl
            rw [this]
            simp
        · exact h.elim
      · exact h.elim
    · exact h.elim
  · exact h.elim

theorem strToBytesV_sound (L : LOk P C) (hr : HR H g M w) {w0 : World} {M0 : Mem} {own0 : Z} (hb : Base w0 M0 own0 H g M w) {s d : TypeId} {x : V} {c : Value} (hx : VR g M x c) {K : V → Heap → Prop} (h : strToBytesV C s d x H K) :
    Made P w0 M0 own0 H g M w (convert s d c) K := by
  unfold strToBytesV at h
  split at h
  · rename_i hs
    split at h
    · rename_i e hd
      split at h
      · rename_i he
        split at h
        · rename_i l
          split at h
          · rename_i ht
            have Fs := (L.get (t := s) (.inl (by rw [hs]; simp))).under
            rw [hs] at Fs
            have Fd := (L.get (t := d) (.inl (by rw [hd]; simp))).under
            rw [hd] at Fd
            have Fe := (L.get (t := e) (.inl (by rw [he]; simp))).under
            rw [he] at Fe
            generalize hc' : c = c' at hx
            cases hx with
            | str bs _ e1 e2 =>
            subst hc'
            have hrun := run_bytes_of_string (P := P) w s d e bs Fs Fd Fe
            have hsz : bs.size = l.length := by rw [← e1]; exact size_eq_length bs
            have hge := grownCap_ge w bs.size 0 e
            have hcell : (bytesRow bs (grownCap w bs.size 0 e)).size = grownCap w bs.size 0 e := by
              have : bs.data.size = bs.size := rfl
              simp only [bytesRow, Array.size_append, Array.size_map, Array.size_replicate]
              omega
            have hrd : HR H g M w.drew := HR.same (w := w) (w' := w.drew) rfl hr
            have hbd : Base w0 M0 own0 H g M w.drew := Base.same (w := w) (w' := w.drew) rfl rfl rfl rfl hb
            have hE := Ext.snoc g M (.sl (.slice (some ⟨w.heap.size, 0, none⟩) bs.size (grownCap w bs.size 0 e)) 0 1)
            have hownb : ∀ b, ownB (.sl 0 (.int .u8) (ofU8 l)) (.sl (.slice (some ⟨w.heap.size, 0, none⟩) bs.size (grownCap w bs.size 0 e)) 0 1) b → b = w.drew.heap.size := by
              intro b hb'; simp only [ownB] at hb'; exact hb'.symm
            refine ⟨_, _, _, g ++ [.sl (.slice (some ⟨w.heap.size, 0, none⟩) bs.size (grownCap w bs.size 0 e)) 0 1], M, _, h, hrun, ?_, hrd.push ?_ hownb, hbd.push hr.len hownb, hE⟩
            · exact .obj _ 0 0 1 (.slice (some ⟨w.heap.size, 0, none⟩) bs.size (grownCap w bs.size 0 e)) _ (by rw [hr.len, List.getElem?_append_right (Nat.le_refl _)]; simp) (Nat.le_refl _) (fun _ => rfl) rfl
            · simp only [ObOk]
              have hll : (ofU8 l).length = bs.size := by simp [ofU8, hsz]
              refine ⟨trivial, rfl, ⟨by decide, by rw [hll, hsz]; exact e2⟩, .inr ⟨w.heap.size, grownCap w bs.size 0 e, bytesRow bs (grownCap w bs.size 0 e), e, _, by rw [hll], heap_alloc_new w.drew _, by rw [hll]; exact hge, by rw [hcell]; simp [Ty.size], ?_, ?_, ?_⟩⟩
              · intro i x hi
                have hil := lt_of_get hi
                rw [hll] at hil
                simp only [ofU8, List.getElem?_map, Option.map_eq_some_iff] at hi
                obtain ⟨b, hb1, rfl⟩ := hi
                simp only [Ty.size, Nat.mul_one]
                have : ((bytesRow bs (grownCap w bs.size 0 e)).toList.drop i).take 1 = [.int .u8 (b.toNat : Int)] := by
                  apply List.ext_getElem?
                  intro j
                  rw [List.getElem?_take, List.getElem?_drop]
                  cases j with
                  | zero =>
                    simp only [bytesRow, Array.toList_append, Array.toList_map]
                    rw [if_pos (by omega), Nat.add_zero, List.getElem?_append_left (by simp; exact hil), List.getElem?_map, e1, hb1]
                    rfl
                  | succ j => simp
                rw [this]
                refine .cons (.int _ _ ?_) .nil
                have e3 : IntKind.u8.min = 0 := rfl
                have e4 : IntKind.u8.max = 255 := rfl
                have := b.toNat_lt
                omega
              · refine ⟨fun i hi hc => ?_, .inl rfl⟩
                simp only at hc
                omega
              · cases hm : M w.heap.size with
                | none => rfl
                | some cs' =>
                  obtain ⟨c', T', fz', k1, k2⟩ := hr.mem _ _ hm
                  have := lt_of_cells k1
                  omega
          · exact h.elim
        · exact h.elim
      · exact h.elim
    · exact h.elim
  · exact h.elim

theorem byteCells_nil : Lib.byteCells [] = [] := rfl

theorem bldOf_sound (L : LOk P C) {t e : TypeId} (h : bldOf C t = some e) : Facts P t (C.ti t) ∧ (C.ti t).zero.cells = #[.pointer none, .slice none 0 0] := by
  unfold bldOf at h
  split at h
  · rename_i fs hd
    have F := L.get (t := t) (.inl (by rw [hd]; simp))
    split at h
    · rename_i f1 f2 hfs
      split at h
      · rename_i t' ht'
        cases hbq : Nat.beq t' t with
        | false => simp only [hbq, cond_false] at h; cases h
        | true =>
          simp only [hbq, cond_true] at h
          split at h
          · split at h
            · split at h
              · rename_i hz
                refine ⟨F, ?_⟩
                have hv : VRs ([] : List G) (fun _ => none) (zeroCells (C.ti t)) (C.ti t).zero.cells.toList := VRs_ofVal1 _ _ _
                rw [hz] at hv
                apply Array.ext'
                generalize (C.ti t).zero.cells.toList = l at hv
                cases hv with
                | cons a r =>
                  cases r with
                  | cons b r =>
                    cases r
                    cases a; cases b
                    rfl
              · cases h
            · cases h
          · cases h
      · cases h
    · cases h
  · cases h

theorem bld_alloc (L : LOk P C) (hr : HR H g M w) {w0 : World} {M0 : Mem} {own0 : Z} (hb : Base w0 M0 own0 H g M w) {t e : TypeId} (he : bldOf C t = some e) {K : V → Heap → Prop} (h : K (.bptr H.length) (H ++ [.bld t e []])) {R : Prop}
    (hk : ∀ v H', K v H' → ∀ val g' w', (Instr.alloc t true (.tuple #[])).run P w = .ok val w' → VR g' M v val → HR H' g' M w' → Base w0 M0 own0 H' g' M w' → Ext g M g' M → R) : R := by
  obtain ⟨F, hz⟩ := bldOf_sound L he
  have hE := Ext.snoc g M (.bld w.heap.size none)
  have hownb : ∀ b, ownB (.bld t e []) (.bld w.heap.size none) b → b = w.heap.size := by
    intro b hb'
    rcases hb' with h | h
    · exact h.symm
    · cases h
  refine hk _ _ h (.pointer (some ⟨w.heap.size, 0, none⟩)) (g ++ [.bld w.heap.size none]) (w.alloc (.cells #[.pointer none, .slice none 0 0] t)) ?_ ?_ (hr.push ?_ hownb) (hb.push hr.len hownb) hE
  · simp [Instr.alloc, F.run_zeroValue, newVar, newRow, hz]
  · exact .bptr _ _ none (by rw [hr.len, List.getElem?_append_right (Nat.le_refl _)]; simp)
  · simp only [ObOk]
    refine ⟨.pointer none, .slice none 0 0, by show (w.heap.push _)[_]? = _; simp, .inl rfl, ?_, rfl, by simp, ?_, by simp, fun _ => rfl⟩
    · rw [byteCells_nil]; exact World.ownsRowF_nil _ _ _ _
    · cases hm : M w.heap.size with
      | none => rfl
      | some cs' =>
        obtain ⟨c', T', fz', k1, k2⟩ := hr.mem _ _ hm
        have := lt_of_cells k1
        omega
end
end Go.Ev

/- Each operation, as the walk meets it. -/
set_option linter.unusedVariables false
set_option linter.unusedSimpArgs false
namespace Go.Ev

def Post (w0 : World) (M0 : Mem) (own0 : Z) (g : List G) (M : Mem) (o : Oper) (a : Act) (K : V → Heap → Prop) (Kn : Act → World → Prop) : Prop :=
  ∀ v H', K v H' → ∀ val g' M' w', VR g' M' v val → HR H' g' M' w' → Base w0 M0 own0 H' g' M' w' → Ext g M g' M' → Kn (a.put o.dst val) w'

theorem Oper.wp_value {P : Program} {o : Oper} {a : Act} {w w' : World} {val : Value} {Kn : Act → World → Prop} {Q : Exit → Act → World → Prop} (h : (execOp a.eval o).run P w = .ok (.value val) w') (hk : Kn (a.put o.dst val) w') : o.wp P a w Kn Q := by
  unfold Oper.wp
  rw [h]
  exact hk

theorem wp_callsX {P : Program} {o : Oper} {a : Act} {w : World} {f : FuncId} {args : Array Value} {R : Value → World → Prop} {Kn : Act → World → Prop} {Q : Exit → Act → World → Prop}
    (he : (execOp a.eval o).run P w = (callFunc f args).run P w) (h : CallsX P f args w R) (hk : ∀ v w', R v w' → Kn (a.put o.dst v) w') : o.wp P a w Kn Q := by
  rcases h with ⟨v, w', h1, h2⟩ | ⟨h1, h2⟩
  · exact Oper.wp_value (he.trans h1) (hk _ _ h2)
  · unfold Oper.wp
    rw [he, h1]
    exact h2.mono fun e w' ⟨v, e1, e2⟩ => by subst e1; exact hk _ _ e2

theorem nat_range {n : Nat} (h : n ≤ 9223372036854775807) : IntKind.i64.min ≤ (n : Int) ∧ (n : Int) ≤ IntKind.i64.max := by
  have e1 : IntKind.i64.min = -9223372036854775808 := rfl
  have e2 : IntKind.i64.max = 9223372036854775807 := rfl
  omega

theorem evalOp_sound {P : Program} {C : Ctx} {M0 : Mem} {own0 : Z} (L : LOk P C) (hc : CallsOk P C M0 own0) {g : List G} {M : Mem} {w : World} {H : Heap} {w0 : World} {o : Oper} {a : Act} {ρ : Operand → V} {K : V → Heap → Prop}
    (h : evalOp C o ρ H K) (hρ : ∀ x ∈ o.op.operands, VR g M (ρ x) (a.eval x)) (hr : HR H g M w) (hb : Base w0 M0 own0 H g M w) {Kn : Act → World → Prop} {Q : Exit → Act → World → Prop}
    (hp : Post w0 M0 own0 g M o a K Kn) : o.wp P a w Kn Q := by
  -- an operation that leaves the memory as it is
  have still : ∀ {s : Sem Value}, (execOp a.eval o).run P w = (do Pure.pure (Next.value (← s)) : Sem Next).run P w → SemOk P g M w s (fun v => K v H) → o.wp P a w Kn Q := by
    rintro s he ⟨v, val, w', k1, k2, k3, k4⟩
    refine Oper.wp_value (val := val) (w' := w') (by rw [he]; simp [k3]) ?_
    exact hp v H k1 val g M w' k2 (hr.same k4.heap) (hb.same k4.heap k4.os k4.tape k4.output) (Ext.refl g M)
  have plain : ∀ {v : V} {val : Value}, (execOp a.eval o).run P w = .ok (.value val) w → VR g M v val → K v H → o.wp P a w Kn Q := fun he hv hk =>
    Oper.wp_value he (hp _ _ hk _ g M w hv hr hb (Ext.refl g M))
  obtain ⟨dst, op, type, pos, after, guard⟩ := o
  cases op
  case move x => exact plain (v := ρ x) rfl (hρ x (by simp [Op.operands])) h
  case assign x => exact plain (v := ρ x) rfl (hρ x (by simp [Op.operands])) h
  case pick c x y =>
    simp only [evalOp] at h
    have hc' := hρ c (by simp [Op.operands])
    have hx' := hρ x (by simp [Op.operands])
    have hy' := hρ y (by simp [Op.operands])
    cases hcc : ρ c <;> rw [hcc] at h hc' <;> simp only at h <;> try exact h.elim
    rename_i t
    cases e : a.eval c <;> rw [e] at hc' <;> cases hc'
    cases t
    · simp only [cond_false] at h
      exact plain (by simp [execOp, e, asBool]) hy' h
    · simp only [cond_true] at h
      exact plain (by simp [execOp, e, asBool]) hx' h
  case alloc t =>
    simp only [evalOp] at h
    split at h
    · rename_i e he
      exact bld_alloc L hr hb he h fun v H' hk val g' w' p0 p1 p2 p3 p4 => Oper.wp_value (by simp only [execOp, Sem.run_bind, p0, Result.andThen_ok]; rfl) (hp v H' hk val g' M w' p1 p2 p3 p4)
    · rename_i he
      cases hz : !Nat.beq (C.ti t).size 0 with
      | false => simp only [hz, cond_false] at h
      | true =>
        simp only [hz, cond_true] at h
        have F := L.get (t := t) (.inr (fun e => by rw [e] at hz; cases hz))
        have hownb : ∀ b, ownB (.box (zeroCells (C.ti t))) (.box w.heap.size) b → b = w.heap.size := by
          intro b hb'; simp [ownB] at hb'; exact hb'.symm
        have hE := Ext.snoc g M (.box w.heap.size)
        refine Oper.wp_value (val := .pointer (some ⟨w.heap.size, 0, none⟩)) (w' := w.alloc (.cells (C.ti t).zero.cells t)) ?_ ?_
        · simp [execOp, Instr.alloc, F.run_zeroValue, newVar, newRow]
        · refine hp _ _ h _ (g ++ [.box w.heap.size]) M _ ?_ (hr.push ?_ hownb) (hb.push hr.len hownb) hE
          · exact .ptr _ 0 _ (by rw [hr.len, List.getElem?_append_right (Nat.le_refl _)]; simp)
          · simp only [ObOk]
            refine ⟨_, t, (0, 0), by show (w.heap.push _)[_]? = _; simp, (VRs_ofVal1 g M _).mono hE, clear_zero _, ?_⟩
            cases hm : M w.heap.size with
            | none => rfl
            | some cs' =>
              obtain ⟨c', T', fz', k1, k2⟩ := hr.mem _ _ hm
              have := lt_of_cells k1
              omega
  case box t x =>
    simp only [evalOp] at h
    have hx' := hρ x (by simp [Op.operands])
    split at h
    · rename_i vs hv
      have hvs := cellsOf_sound hx' hv
      have hownb : ∀ b, ownB (.box vs) (.box w.heap.size) b → b = w.heap.size := by
        intro b hb'; simp [ownB] at hb'; exact hb'.symm
      have hE := Ext.snoc g M (.box w.heap.size)
      refine Oper.wp_value (val := .pointer (some ⟨w.heap.size, 0, none⟩)) (w' := w.alloc (.cells (a.eval x).cells t)) ?_ ?_
      · simp [execOp, Instr.box, newVar, newRow]
      · refine hp _ _ h _ (g ++ [.box w.heap.size]) M _ ?_ (hr.push ?_ hownb) (hb.push hr.len hownb) hE
        · exact .ptr _ 0 _ (by rw [hr.len, List.getElem?_append_right (Nat.le_refl _)]; simp)
        · simp only [ObOk]
          refine ⟨_, t, (0, 0), by show (w.heap.push _)[_]? = _; simp, hvs.mono hE, clear_zero _, ?_⟩
          cases hm : M w.heap.size with
          | none => rfl
          | some cs' =>
            obtain ⟨c', T', fz', k1, k2⟩ := hr.mem _ _ hm
            have := lt_of_cells k1
            omega
    · exact h.elim
  case build t ps =>
    simp only [evalOp] at h
    refine still (s := Instr.build t (ps.map fun (i, x) => (i, a.eval x))) rfl (buildV_sound L ps ρ a.eval ?_ h)
    intro p hp'
    exact hρ p.2 (by simp only [Op.operands]; rw [List.mem_toArray, List.mem_map]; exact ⟨p, hp', rfl⟩)
  case buildSlice t len ps =>
    simp only [evalOp] at h
    have hops : ∀ p ∈ ps.toList, VR g M (ρ p.2) (a.eval p.2) := fun p hp' => hρ p.2 (by simp only [Op.operands]; rw [List.mem_toArray, List.mem_map]; exact ⟨p, hp', rfl⟩)
    cases hz : frz1 C H (ps.toList.map fun p => (p.1, ρ p.2)) with
    | none =>
      rw [hz] at h
      obtain ⟨v, H', val, g', M', w', k1, k2, k3, k4, k5, k6⟩ := buildSliceV_sound L hr hb ps ρ a.eval hops h
      exact Oper.wp_value (by simp only [execOp, Sem.run_bind, k2, Result.andThen_ok]; rfl) (hp v H' k1 val g' M' w' k3 k4 k5 k6)
    | some q =>
      obtain ⟨H1, qs⟩ := q
      rw [hz] at h
      simp only at h
      obtain ⟨_, i, vs, vs', e1, rfl, e3⟩ := frz1_is hz
      obtain ⟨p, hps, hpe⟩ := List.map_eq_singleton_iff.1 e1
      have hv := hops p (by rw [hps]; simp)
      rw [Prod.mk.injEq] at hpe
      rw [hpe.2] at hv
      cases hca : a.eval p.2 <;> rw [hca] at hv <;> cases hv
      rename_i cs hvs
      obtain ⟨M1, p1, p2, p3, p4⟩ := freezes1_sound hr hb hvs e3
      have h' : buildSliceV C t len (ps.toList.map fun p => (p.1, (fun _ : Operand => V.agg vs') p.2)) H1 K := by
        rw [hps]
        simp only [List.map_cons, List.map_nil]
        rw [hpe.1]
        exact h
      obtain ⟨v, H', val, g', M', w', k1, k2, k3, k4, k5, k6⟩ := buildSliceV_sound L p1 p2 ps (fun _ => V.agg vs') a.eval (fun p' hp' => by
        rw [hps, List.mem_singleton] at hp'
        rw [hp', hca]
        exact .agg _ _ p4) h'
      exact Oper.wp_value (by simp only [execOp, Sem.run_bind, k2, Result.andThen_ok]; rfl) (hp v H' k1 val g' M' w' k3 k4 k5 ((Ext.mem p3).trans k6))
  case load t x => exact still rfl (loadV_sound L (hρ x (by simp [Op.operands])) hr h).ok
  case store t x y =>
    simp only [evalOp] at h
    obtain ⟨H', w', g', k1, k2, k3, k4, k5⟩ := storeV_sound L (hρ x (by simp [Op.operands])) (hρ y (by simp [Op.operands])) hr hc.2.2 hb h
    have := hp (.tuple []) H' k1 undef g' M w' (.tuple [] #[] .nil) k3 k4 k5
    unfold Oper.wp
    have he : (execOp a.eval ⟨dst, .store t x y, type, pos, after, guard⟩).run P w = .ok .skip w' := by simp [execOp, k2]
    rw [he]
    exact this
  case nilCheck x =>
    simp only [evalOp] at h
    have hx' := hρ x (by simp [Op.operands])
    cases hxx : ρ x <;> rw [hxx] at h hx' <;> simp only at h <;> try exact h.elim
    all_goals
      cases e : a.eval x <;> rw [e] at hx' <;> try (cases hx'; done)
    · rename_i cells off ad
      cases hx'
      rename_i b base o cs h1 h2 h3
      exact plain (by simp [execOp, e]) (.ref cells b base off o cs h1 h2 h3) h
    · rename_i id off ad
      cases hx'
      rename_i b h1
      exact plain (by simp [execOp, e]) (.ptr id off b h1) h
    · rename_i id ver i off ad
      cases hx'
      rename_i ver' sz b o hh h1 h2 h3 h4
      exact plain (by simp [execOp, e]) (.eptr id ver ver' sz i off b o hh h1 h2 h3 h4) h
    · rename_i f vs fn first cap
      cases hx'
      rename_i h1
      exact plain (by simp [execOp, e]) (.fn f vs cap h1) h
  case binOp op t x y yt => exact still rfl (binV_sound L op t (hρ x (by simp [Op.operands])) (hρ y (by simp [Op.operands])) h x y)
  case unOp op t x => exact still rfl (unV_sound op (hρ x (by simp [Op.operands])) h)
  case convert s d x =>
    simp only [evalOp] at h
    cases hk : cvKind C s d with
    | reads => simp only [hk] at h; exact still rfl (bytesToStrV_sound L hr (hρ x (by simp [Op.operands])) h)
    | alloc =>
      simp only [hk] at h
      obtain ⟨v, H', val, g', M', w', k1, k2, k3, k4, k5, k6⟩ := strToBytesV_sound L hr hb (hρ x (by simp [Op.operands])) h
      exact Oper.wp_value (by simp only [execOp, Sem.run_bind, k2, Result.andThen_ok]; rfl) (hp v H' k1 val g' M' w' k3 k4 k5 k6)
    | blind => simp only [hk] at h; exact still rfl (convV_sound L s d (hρ x (by simp [Op.operands])) h)
    | writes => simp only [hk] at h; exact still rfl (convV_sound L s d (hρ x (by simp [Op.operands])) h)
  case fieldAddr s x f => exact still rfl (fieldAddrV_sound L (hρ x (by simp [Op.operands])) h)
  case field s x f => exact still rfl (fieldV_sound L (hρ x (by simp [Op.operands])) h)
  case indexAddr t x i => exact still rfl (indexAddrV_sound L (hρ x (by simp [Op.operands])) (hρ i (by simp [Op.operands])) hr h)
  case index t x i => exact still rfl (indexV_sound L (hρ x (by simp [Op.operands])) (hρ i (by simp [Op.operands])) h)
  case extract x i => exact still rfl (extractV_sound (hρ x (by simp [Op.operands])) h)
  case makeFunc fn first cap =>
    simp only [evalOp] at h
    split at h
    · rename_i f
      cases hz : Nat.beq first.size 0 with
      | false => simp only [hz, cond_false] at h
      | true =>
        simp only [hz, cond_true] at h
        have hf : first = #[] := by
          have := beq_true hz
          exact Array.eq_empty_of_size_eq_zero this
        subst hf
        refine plain (val := .func (.func f) #[] (cap.map a.eval)) (by simp [execOp, Instr.makeFunc]) (.fn f _ _ ?_) h
        have : ∀ l : List Operand, (∀ x ∈ l, VR g M (ρ x) (a.eval x)) → VRs g M (l.map ρ) (l.map a.eval) := by
          intro l
          induction l with
          | nil => intro _; exact .nil
          | cons x l ih => intro hl; exact .cons (hl x (by simp)) (ih fun y hy => hl y (by simp [hy]))
        rw [Array.toList_map]
        exact this _ fun x hx => hρ x (by simp [Op.operands]; simpa using hx)
    · exact h.elim
  case makeSlice t l c =>
    simp only [evalOp] at h
    obtain ⟨v, H', val, g', M', w', k1, k2, k3, k4, k5, k6⟩ := makeSliceV_sound L hr hb (hρ l (by simp [Op.operands])) (hρ c (by simp [Op.operands])) h
    exact Oper.wp_value (by simp only [execOp, Sem.run_bind, k2, Result.andThen_ok]; rfl) (hp v H' k1 val g' M' w' k3 k4 k5 k6)
  case slice t x lo hi mx =>
    cases mx with
    | some m => simp only [evalOp] at h
    | none =>
      simp only [evalOp] at h
      obtain ⟨v, H', val, g', M', w', k1, k2, k3, k4, k5, k6⟩ := sliceV_sound (ev := a.eval) L hc.2.2 hr hb (hρ x (by simp [Op.operands])) (fun y hy => hρ y (by subst hy; simp [Op.operands])) (fun y hy => hρ y (by subst hy; simp [Op.operands])) h
      exact Oper.wp_value (by simp only [execOp, Sem.run_bind, Option.map_none, k2, Result.andThen_ok]; rfl) (hp v H' k1 val g' M' w' k3 k4 k5 k6)
  case call c =>
    obtain ⟨callee, args, argTypes⟩ := c
    cases callee with
    | value f =>
      simp only [evalOp] at h
      have hf' := hρ f (by simp [Op.operands, Call.operands])
      cases hff : ρ f <;> rw [hff] at h hf' <;> simp only at h <;> try exact h.elim
      rename_i fid cap
      cases e : a.eval f <;> rw [e] at hf' <;> try (cases hf'; done)
      rename_i fn first caps
      cases hf'
      rename_i hcap
      have hargs : VRs g M (args.toList.map ρ ++ cap) ((args.map a.eval).toList ++ caps.toList) := by
        refine VRs.append ?_ hcap
        have : ∀ l : List Operand, (∀ x ∈ l, VR g M (ρ x) (a.eval x)) → VRs g M (l.map ρ) (l.map a.eval) := by
          intro l
          induction l with
          | nil => intro _; exact .nil
          | cons x l ih => intro hl; exact .cons (hl x (by simp)) (ih fun y hy => hl y (by simp [hy]))
        rw [Array.toList_map]
        exact this _ fun x hx => hρ x (by simp [Op.operands, Call.operands]; right; simpa using hx)
      obtain ⟨v, H', k1, k2⟩ := callV_sound hc hr hb hargs h
      refine wp_callsX (f := fid) (args := args.map a.eval ++ caps) ?_ (by rw [show args.map a.eval ++ caps = ((args.map a.eval).toList ++ caps.toList).toArray by simp]; exact k2) ?_
      · simp [execOp, resolve, e, Deferred.ofValue, invoke]
      · rintro val w' ⟨g', M', p1, p2, p3, p4⟩
        exact hp v H' k1 val g' M' w' p1 p2 p3 p4
    | builtin b =>
      cases b
      case len =>
        simp only [evalOp] at h
        split at h
        · rename_i x hx
          split at h
          · rename_i t ht
            have hx' := hρ x (by simp [Op.operands, Call.operands]; rw [← Array.mem_toList_iff, hx]; simp)
            have hargs : args = #[x] := by apply Array.ext'; simpa using hx
            have htypes : argTypes = #[t] := by apply Array.ext'; simpa using ht
            subst hargs
            subst htypes
            have run : ∀ n : Nat, (Builtin.len_ #[t] type #[a.eval x]).run P w = .ok (.int .i64 n) w → (execOp a.eval ⟨dst, .call ⟨.builtin .len, #[x], #[t]⟩, type, pos, after, guard⟩).run P w = .ok (.value (.int .i64 n)) w := by
              intro n hn
              simp [execOp, resolve, invoke, builtin, hn]
            split at h
            · rename_i e hd
              have F := (L.get (t := t) (.inl (by rw [hd]; simp))).under
              rw [hd] at F
              have slc : ∀ {ad : Option Addr} {n cap : Nat}, a.eval x = .slice ad n cap → n ≤ 9223372036854775807 → K (.int .i64 n) H → Oper.wp P ⟨dst, .call ⟨.builtin .len, #[x], #[t]⟩, type, pos, after, guard⟩ a w Kn Q := fun he hle hk =>
                plain (run _ (by simp [Builtin.len_, Go.run_underlying F, he, goInt])) (.int _ _ (nat_range hle)) hk
              unfold lenV at h
              cases hxx : ρ x <;> rw [hxx] at h hx' <;> simp only at h <;> try exact h.elim
              · cases e : a.eval x <;> rw [e] at hx' <;> try (cases hx'; done)
                cases hx' with
                | vecnil => exact slc e (Nat.zero_le _) h
                | vec _ _ b off n cap cs p1 p2 p3 p4 => obtain ⟨rfl, p2'⟩ := p2; exact slc e p2' h
              · cases e : a.eval x <;> rw [e] at hx' <;> cases hx'
                exact slc e (Nat.zero_le _) h
              · rename_i id ver
                cases hx' with
                | obj _ _ ver' sz hh _ h1 h2 h3 h4 =>
                  split at h
                  · rename_i ver2 ty xs hid
                    have ho := hr.ob id _ _ hid h1
                    simp only [ObOk] at ho
                    cases hbq : Nat.beq ver ver2 with
                    | false => simp [hbq] at h
                    | true =>
                      simp only [hbq, cond_true] at h
                      have e1 := h3 (by rw [ho.1]; exact beq_true hbq)
                      rcases ho.2.2.2 with ⟨rfl, rfl⟩ | ⟨b, cap, c, T, fz, rfl, _⟩
                      · exact slc e1 (Nat.zero_le _) h
                      · exact slc e1 ho.2.2.1.2 h
                  · rename_i ver2 ty xs hid
                    have ho := hr.ob id _ _ hid h1
                    simp only [ObOk] at ho
                    cases hbq : Nat.beq ver ver2 with
                    | false => simp [hbq] at h
                    | true =>
                      simp only [hbq, cond_true] at h
                      have e1 := h3 (by rw [ho.1]; exact beq_true hbq)
                      cases ho.2.2 with
                      | vecnil => exact slc e1 (Nat.zero_le _) h
                      | vec _ _ b off n cap cs p1 p2 p3 p4 => obtain ⟨rfl, p2'⟩ := p2; exact slc e1 p2' h
                  · exact h.elim
              · cases e : a.eval x <;> rw [e] at hx' <;> try (cases hx'; done)
                cases hx' with
                | empty _ _ ad cap _ => exact slc e (Nat.zero_le _) h
              · rename_i id ver
                cases hx' with
                | dob _ _ ver' iv sz bs ih hh _ h1 h2 h3 h4 =>
                  split at h
                  · rename_i ver2 iv2 ty xs hid
                    have ho := hr.ob id _ _ hid h1
                    simp only [ObOk] at ho
                    obtain ⟨⟨rfl, rfl, rfl⟩, hdc, _⟩ := ho
                    cases hv : Nat.beq ver ver' with
                    | false => simp [hv] at h
                    | true =>
                      simp only [hv, cond_true] at h
                      have e1 := h3 (beq_true hv)
                      obtain ⟨v0, hv0, hlen, _, ⟨e0, rfl, _⟩ | ⟨b, cap, ce, T, fz, bss, e0, _⟩⟩ := hdc
                      · cases hv0
                        exact slc (e1.trans e0) (Nat.zero_le _) h
                      · cases hv0
                        exact slc (e1.trans e0) hlen h
                  · exact h.elim
            · rename_i hd
              have F := (L.get (t := t) (.inl (by rw [hd]; simp))).under
              rw [hd] at F
              split at h
              · rename_i s hs
                rw [hs] at hx'
                cases e : a.eval x <;> rw [e] at hx' <;> cases hx'
                rename_i s' hl2 hl
                subst hl
                refine plain (run s'.data.toList.length (by rw [← size_eq_length]; simp only [Builtin.len_, List.getElem?_toArray, List.getElem?_cons_zero, Sem.run_bind, Go.run_underlying F, e, goInt, Result.andThen_ok, Sem.run_pure])) (.int _ _ (nat_range hl2)) h
              · exact h.elim
            · rename_i n e hd
              have F := (L.get (t := t) (.inl (by rw [hd]; simp))).under
              rw [hd] at F
              cases hn : Nat.ble n 9223372036854775807 with
              | false => simp only [hn, cond_false] at h
              | true =>
                simp only [hn, cond_true] at h
                exact plain (run n (by simp [Builtin.len_, Go.run_underlying F, goInt])) (.int _ _ (nat_range (Nat.le_of_ble_eq_true hn))) h
            · exact h.elim
          · exact h.elim
        · exact h.elim
      case append =>
        simp only [evalOp] at h
        split at h
        · rename_i x y hx
          split at h
          · rename_i t u ht
            cases hbq : Nat.beq t u with
            | false =>
              simp only [hbq, cond_false] at h
              have harr : args = #[x, y] := by cases args; simp_all
              have htar : argTypes = #[t, u] := by cases argTypes; simp_all
              subst harr
              subst htar
              obtain ⟨v, H', val, g', M', w', k1, k2, k3, k4, k5, k6⟩ := appendZ_sound (ty := type) L hr hb (hρ x (by simp [Op.operands, Call.operands])) (hρ y (by simp [Op.operands, Call.operands])) h
              exact Oper.wp_value (by simp [execOp, resolve, invoke, builtin, k2]) (hp v H' k1 val g' M' w' k3 k4 k5 k6)
            | true =>
              simp only [hbq, cond_true] at h
              have htu := beq_true hbq
              subst htu
              have harr : args = #[x, y] := by cases args; simp_all
              have htar : argTypes = #[t, t] := by cases argTypes; simp_all
              subst harr
              subst htar
              obtain ⟨v, H', val, g', M', w', k1, k2, k3, k4, k5, k6⟩ := appendV_sound (ty := type) L hc.2.2 hr hb (hρ x (by simp [Op.operands, Call.operands])) (hρ y (by simp [Op.operands, Call.operands])) h
              exact Oper.wp_value (by simp [execOp, resolve, invoke, builtin, k2]) (hp v H' k1 val g' M' w' k3 k4 k5 k6)
          · exact h.elim
        · exact h.elim
      case cap =>
        simp only [evalOp] at h
        split at h
        · rename_i x hx
          split at h
          · rename_i t ht
            split at h
            · rename_i e hd
              split at h
              · rename_i hn
                have hx' := hρ x (by simp [Op.operands, Call.operands]; rw [← Array.mem_toList_iff, hx]; simp)
                rw [hn] at hx'
                have hargs : args = #[x] := by apply Array.ext'; simpa using hx
                have htypes : argTypes = #[t] := by apply Array.ext'; simpa using ht
                subst hargs
                subst htypes
                have F := (L.get (t := t) (.inl (by rw [hd]; simp))).under
                rw [hd] at F
                cases e : a.eval x <;> rw [e] at hx' <;> cases hx'
                refine plain (val := .int .i64 0) (by simp [execOp, resolve, invoke, builtin, Builtin.cap_, Go.run_underlying F, e, goInt]) (.int _ _ (by decide)) h
              · exact h.elim
            · exact h.elim
          · exact h.elim
        · exact h.elim
      case max =>
        simp only [evalOp] at h
        split at h
        · rename_i x y hx
          have harr : args = #[x, y] := by cases args; simp_all
          subst harr
          obtain ⟨v, val, k1, k2, k3⟩ := maxV_sound (P := P) (w := w) (ts := argTypes) (ty := type) (hρ x (by simp [Op.operands, Call.operands])) (hρ y (by simp [Op.operands, Call.operands])) h
          exact plain (by simp [execOp, resolve, invoke, builtin, k3]) k2 k1
        · exact h.elim
      case min =>
        simp only [evalOp] at h
        split at h
        · rename_i x y hx
          have harr : args = #[x, y] := by cases args; simp_all
          subst harr
          obtain ⟨v, val, k1, k2, k3⟩ := minV_sound (P := P) (w := w) (ts := argTypes) (ty := type) (hρ x (by simp [Op.operands, Call.operands])) (hρ y (by simp [Op.operands, Call.operands])) h
          exact plain (by simp [execOp, resolve, invoke, builtin, k3]) k2 k1
        · exact h.elim
      all_goals (simp only [evalOp] at h)
    | invoke x m => simp only [evalOp] at h
  all_goals (simp only [evalOp] at h)

end Go.Ev

/- Code: rows of operations, branches, blocks, loops. -/
set_option linter.unusedVariables false
set_option linter.unusedSimpArgs false
namespace Go.Ev

structure FR (C : Ctx) (g : List G) (M : Mem) (fr : Fr) (a : Act) : Prop where
  get : ∀ t, VR g M (fr.get t) (a.tmps.getD t Go.undef)
  size : a.tmps.size = C.ntmps
  defers : a.defers = []

def Good (C : Ctx) (w0 : World) (M0 : Mem) (own0 : Z) (fr : Fr) (H : Heap) (a : Act) (w : World) : Prop :=
  ∃ g M, FR C g M fr a ∧ HR H g M w ∧ Base w0 M0 own0 H g M w

section
variable {P : Program} {C : Ctx} {g : List G} {M : Mem} {fr : Fr} {a : Act} {w : World} {H : Heap}

theorem FR.eval (h : FR C g M fr a) (x : Operand) : VR g M (fr.eval x) (a.eval x) := by
  cases x with
  | tmp t => exact h.get t
  | const v => exact VR_ofVal g M v
  | global n => exact .undef _
  | func f => exact .fn f [] #[] .nil

theorem FR.mono {g' : List G} {M' : Mem} (E : Ext g M g' M') (h : FR C g M fr a) : FR C g' M' fr a := ⟨fun t => (h.get t).mono E, h.size, h.defers⟩

theorem FR.cons (h : FR C g M fr a) {d : Nat} {v : V} (hv : VR g M v (a.tmps.getD d Go.undef)) : FR C g M ((d, v) :: fr) a := by
  refine ⟨fun t => ?_, h.size, h.defers⟩
  simp only [Fr.get]
  cases e : Nat.beq d t with
  | true => rw [← beq_true e]; exact hv
  | false => exact h.get t

theorem FR.put {g' : List G} {M' : Mem} (h : FR C g M fr a) (E : Ext g M g' M') {d : Nat} (hd : d < C.ntmps) {v : V} {val : Value} (hv : VR g' M' v val) : FR C g' M' ((d, v) :: fr) (a.put (some d) val) := by
  have hs := h.size
  refine ⟨fun t => ?_, by simp [Act.put, hs], h.defers⟩
  simp only [Fr.get]
  cases e : Nat.beq d t with
  | true =>
    have := beq_true e
    subst this
    simp only [cond_true, Act.put]
    rw [show (a.tmps.setIfInBounds d val).getD d Go.undef = val by simp [Array.getD, hs, hd]]
    exact hv
  | false =>
    have hne := beq_false e
    simp only [cond_false, Act.put]
    rw [show (a.tmps.setIfInBounds d val).getD t Go.undef = a.tmps.getD t Go.undef by simp [Array.getD_eq_getD_getElem?, Array.getElem?_setIfInBounds, hne]]
    exact (h.get t).mono E

theorem put_sound {g' : List G} {M' : Mem} (h : FR C g M fr a) (E : Ext g M g' M') {d : Option Nat} {v : V} {val : Value} (hv : VR g' M' v val) {K : Fr → Prop} (hk : put C fr d v K) :
    ∃ fr', K fr' ∧ FR C g' M' fr' (a.put d val) := by
  cases d with
  | none => exact ⟨fr, hk, h.mono E⟩
  | some d =>
    simp only [put] at hk
    cases e : Nat.blt d C.ntmps with
    | false => simp only [e, cond_false] at hk
    | true =>
      simp only [e, cond_true] at hk
      exact ⟨_, hk, h.put E (by rw [Nat.blt_eq] at e; exact e) hv⟩

theorem slot_bool (h : FR C g M fr a) {d : Nat} {b : Bool} (hd : fr.get d = .bool b) : a.tmps[d]? = some (.bool b) := by
  have hv := h.get d
  rw [hd] at hv
  generalize e : a.tmps.getD d Go.undef = c at hv
  cases hv
  simp only [Array.getD_eq_getD_getElem?] at e
  cases e2 : a.tmps[d]? with
  | none => rw [e2] at e; cases e
  | some x => rw [e2] at e; simp at e; rw [e]
theorem slot_skip (h : FR C g M fr a) {d : Nat} (hd : fr.get d = .tuple []) : ∀ b, a.tmps[d]? ≠ some (.bool b) := by
  have hv := h.get d
  rw [hd] at hv
  generalize e : a.tmps.getD d Go.undef = c at hv
  cases hv
  intro b hb
  simp only [Array.getD_eq_getD_getElem?, hb] at e
  cases e

theorem wpList_do {ops : Array Oper} {Q : Exit → Act → World → Prop} {o : Oper} {rest : List Oper} (hw : Region.wanted o (yielded ops a.tmps) = true) (h : o.wp P a w (wpList P ops Q rest) Q) : wpList P ops Q (o :: rest) a w := by
  unfold wpList
  rw [if_pos hw]
  exact .inl h
theorem wpList_pass {ops : Array Oper} {Q : Exit → Act → World → Prop} {o : Oper} {rest : List Oper} (hw : Region.wanted o (yielded ops a.tmps) = false) (h : wpList P ops Q rest (a.put o.dst Go.undef) w) : wpList P ops Q (o :: rest) a w := by
  unfold wpList
  rw [if_neg (by rw [hw]; simp)]
  exact h
end

section
variable {P : Program} {C : Ctx} {w0 : World} {M0 : Mem} {own0 : Z}

theorem evalOps_step (L : LOk P C) (hc : CallsOk P C M0 own0) {ops : Array Oper} {Q : Exit → Act → World → Prop} {Kn : Act → World → Prop} {o : Oper} {rest : List Oper} {fr : Fr} {H : Heap} {K : Fr → Heap → Prop} {a : Act} {w : World}
    (h : evalOps C ops (o :: rest) fr H K) (hg : Good C w0 M0 own0 fr H a w) (hk : ∀ fr' H' a' w', evalOps C ops rest fr' H' K → Good C w0 M0 own0 fr' H' a' w' → Kn a' w') :
    (Region.wanted o (yielded ops a.tmps) = true → o.wp P a w Kn Q) ∧ (Region.wanted o (yielded ops a.tmps) = false → Kn (a.put o.dst Go.undef) w) := by
  have run : ∀ fr1, evalOp C o (Fr.eval fr1) H (fun v H' => put C fr1 o.dst v fun fr' => evalOps C ops rest fr' H' K) → Good C w0 M0 own0 fr1 H a w → o.wp P a w Kn Q := by
    rintro fr1 h1 ⟨g, M, hf, hr, hb⟩
    refine evalOp_sound L hc h1 (fun x _ => hf.eval x) hr hb ?_
    intro v H' hk' val g' M' w' p1 p2 p3 p4
    obtain ⟨fr', k1, k2⟩ := put_sound hf p4 p1 hk'
    exact hk fr' H' _ w' k1 ⟨g', M', k2, p2, p3⟩
  have skip : ∀ fr1, put C fr1 o.dst (.tuple []) (fun fr' => evalOps C ops rest fr' H K) → Good C w0 M0 own0 fr1 H a w → Kn (a.put o.dst Go.undef) w := by
    rintro fr1 h1 ⟨g, M, hf, hr, hb⟩
    obtain ⟨fr', k1, k2⟩ := put_sound (val := Go.undef) hf (Ext.refl g M) (.tuple [] #[] .nil) h1
    exact hk fr' H _ w k1 ⟨g, M, k2, hr, hb⟩
  simp only [evalOps] at h
  split at h
  · rename_i hgd
    have hw : Region.wanted o (yielded ops a.tmps) = true := by simp [Region.wanted, hgd]
    exact ⟨fun _ => run fr h hg, (fun e => by rw [hw] at e; cases e)⟩
  · rename_i j want hgd
    split at h
    · exact h.elim
    · rename_i d hd
      have hy : ∀ r, a.tmps[d]? = r → yielded ops a.tmps j = (match r with | some (.bool b) => some b | _ => none) := by
        intro r hr
        simp only [yielded, hd, Option.bind_some, hr]
        cases r with
        | none => rfl
        | some x => cases x <;> rfl
      split at h
      · rename_i b hb
        have hs : a.tmps[d]? = some (.bool b) := by
          obtain ⟨g, M, hf, _, _⟩ := hg
          exact slot_bool hf hb
        have hw : Region.wanted o (yielded ops a.tmps) = (b == want) := by
          simp only [Region.wanted, hgd, hy _ hs]
          cases b <;> cases want <;> rfl
        have hgb : ∀ b', b' = b → Good C w0 M0 own0 ((d, .bool b') :: fr) H a w := by
          rintro _ rfl
          obtain ⟨g, M, hf, hr, hbb⟩ := hg
          refine ⟨g, M, hf.cons ?_, hr, hbb⟩
          simp only [Array.getD_eq_getD_getElem?, hs]
          exact .bool _
        rw [hw]
        cases want <;> cases b <;> simp only [cond_true, cond_false] at h
        · exact ⟨fun _ => run _ h (hgb _ rfl), (fun e => by cases e)⟩
        · exact ⟨(fun e => by cases e), fun _ => skip _ h (hgb _ rfl)⟩
        · exact ⟨(fun e => by cases e), fun _ => skip _ h (hgb _ rfl)⟩
        · exact ⟨fun _ => run _ h (hgb _ rfl), (fun e => by cases e)⟩
      · rename_i hb
        have hs : ∀ b, a.tmps[d]? ≠ some (.bool b) := by
          obtain ⟨g, M, hf, _, _⟩ := hg
          exact slot_skip hf hb
        have hw : Region.wanted o (yielded ops a.tmps) = false := by
          simp only [Region.wanted, hgd, hy _ rfl]
          cases e : a.tmps[d]? with
          | none => rfl
          | some x =>
            cases x <;> first | rfl | exact absurd e (hs _)
        exact ⟨(fun e => by rw [hw] at e; cases e), fun _ => skip fr h hg⟩
      · exact h.elim

theorem evalOps_sound (L : LOk P C) (hc : CallsOk P C M0 own0) (ops : Array Oper) {Q : Exit → Act → World → Prop} : ∀ (l : List Oper) (fr : Fr) (H : Heap) (K : Fr → Heap → Prop) (a : Act) (w : World), evalOps C ops l fr H K →
    Good C w0 M0 own0 fr H a w → (∀ fr' H', K fr' H' → ∀ a' w', Good C w0 M0 own0 fr' H' a' w' → Q .normal a' w') → wpList P ops Q l a w := by
  intro l
  induction l with
  | nil =>
    intro fr H K a w h hg hq
    exact hq fr H h a w hg
  | cons o rest ih =>
    intro fr H K a w h hg hq
    obtain ⟨h1, h2⟩ := evalOps_step (Q := Q) (Kn := wpList P ops Q rest) L hc h hg fun fr' H' a' w' k1 k2 => ih fr' H' K a' w' k1 k2 hq
    cases hw : Region.wanted o (yielded ops a.tmps) with
    | true => exact wpList_do hw (h1 hw)
    | false => exact wpList_pass hw (h2 hw)

theorem wp_loop_n {c : Code} {Q : Exit → Act → World → Prop} (R : Nat → Act → World → Prop)
    (round : ∀ n a w, R n a w → c.wp P (Exit.then (fun a' w' => ∃ m, m < n ∧ R m a' w') Q) a w) {n : Nat} {a : Act} {w : World} (h₀ : R n a w) : (Code.loop c).wp P Q a w := by
  intro b k cs
  have key : ∀ n a w, R n a w → ∃ e a' w', Q e a' w' ∧ Arrives P (lone (b.at a (.code c :: .inLoop c :: k)) cs w) b k cs e a' w' := by
    intro n
    induction n using Nat.strongRecOn with
    | _ n ih =>
      intro a w hI
      obtain ⟨e, a₁, w₁, hq, harr⟩ := round n a w hI b (.inLoop c :: k) cs
      cases e with
      | normal =>
        obtain ⟨m, hlt, hI₁⟩ := hq
        obtain ⟨e₂, a₂, w₂, hq₂, harr₂⟩ := ih m hlt a₁ w₁ hI₁
        exact ⟨e₂, a₂, w₂, hq₂, .of_steps (Steps.trans harr (.one step_inLoop)) harr₂⟩
      | exit id => exact ⟨_, a₁, w₁, hq, .pass (x := .inLoop c) rfl (fun _ _ => .inl (by simp)) harr⟩
      | goto l => exact ⟨_, a₁, w₁, hq, .pass (x := .inLoop c) rfl (fun _ _ => .inl (by simp)) harr⟩
      | ret => exact ⟨_, a₁, w₁, hq, .pass (x := .inLoop c) rfl (fun _ _ => .inl (by simp)) harr⟩
      | panic ch => exact ⟨_, a₁, w₁, hq, .pass (x := .inLoop c) rfl (fun _ _ => .inl (by simp)) harr⟩
      | outgrown => exact ⟨_, a₁, w₁, hq, .pass (x := .inLoop c) rfl (fun _ _ => .inl (by simp)) harr⟩
  obtain ⟨e, a', w', hq, harr⟩ := key n a w h₀
  exact ⟨e, a', w', hq, .of_steps (.one step_loop) harr⟩

def G.again : G → G
  | .box b => .box b
  | .sl h _ sz => .sl h 0 sz
  | .bld b buf => .bld b buf
  | .dp h _ _ sz bs ih => .dp h 0 0 sz bs ih
def gAt (g : List G) (id : Nat) : G := match g[id]? with | some x => x.again | none => .box 0
def gNorm (L : List Nat) (g : List G) : List G := L.map (gAt g)

theorem posOf_get : ∀ {L : List Nat} {id j : Nat}, posOf L id = some j → L[j]? = some id
  | [], _, _, h => by simp [posOf] at h
  | x :: r, id, j, h => by
    simp only [posOf] at h
    cases e : Nat.beq x id with
    | true => simp only [e, cond_true] at h; cases h; rw [beq_true e]; rfl
    | false =>
      simp only [e, cond_false] at h
      split at h
      · rename_i k hk
        cases h
        simpa using posOf_get hk
      · cases h
theorem posOf_mem : ∀ {L : List Nat} {id : Nat}, posOf L id = none → id ∉ L
  | [], _, _ => by simp
  | x :: r, id, h => by
    simp only [posOf] at h
    cases e : Nat.beq x id with
    | true => simp only [e, cond_true] at h; cases h
    | false =>
      simp only [e, cond_false] at h
      split at h
      · cases h
      · rename_i hk
        have := posOf_mem hk
        have hne : ¬ x = id := fun e' => by subst e'; simp at e
        simp only [List.mem_cons, not_or]
        exact ⟨fun e' => hne e'.symm, this⟩
structure KOk (keep n : Nat) (L : List Nat) : Prop where
  lt : ∀ id ∈ L, id < n
  nd : L.Nodup
  pre : ∀ id, id < keep → id < n → L[id]? = some id
theorem idsOf_get : ∀ (H : Heap) (i j : Nat), (idsOf i H)[j]? = if j < H.length then some (i + j) else none
  | [], i, j => by simp [idsOf]
  | o :: r, i, 0 => by simp [idsOf]
  | o :: r, i, j + 1 => by
    simp only [idsOf, List.getElem?_cons_succ, List.length_cons, idsOf_get r (i + 1) j]
    by_cases h : j < r.length
    · rw [if_pos h, if_pos (by omega)]; congr 1; omega
    · rw [if_neg h, if_neg (by omega)]
theorem idsOf_ok (H : Heap) (keep : Nat) : KOk keep H.length (idsOf 0 (H.take keep)) := by
  refine ⟨fun id hid => ?_, ?_, fun id h1 h2 => ?_⟩
  · obtain ⟨j, hj⟩ := List.mem_iff_getElem?.1 hid
    rw [idsOf_get] at hj
    split at hj
    · rename_i h
      rw [List.length_take] at h
      cases hj
      omega
    · cases hj
  · rw [List.nodup_iff_pairwise_ne, List.pairwise_iff_getElem]
    intro i j hi hj hij e
    have h1 := idsOf_get (H.take keep) 0 i
    have h2 := idsOf_get (H.take keep) 0 j
    rw [List.getElem?_eq_getElem hi] at h1
    rw [List.getElem?_eq_getElem hj] at h2
    split at h1
    · split at h2
      · simp only [Option.some.injEq] at h1 h2
        omega
      · cases h2
    · cases h1
  · rw [idsOf_get, if_pos (by rw [List.length_take]; omega), Nat.zero_add]
theorem nodup_pos {L : List Nat} (h : L.Nodup) {i j x : Nat} (h1 : L[i]? = some x) (h2 : L[j]? = some x) : i = j := by
  rw [List.nodup_iff_pairwise_ne, List.pairwise_iff_getElem] at h
  obtain ⟨l1, e1⟩ := List.getElem?_eq_some_iff.1 h1
  obtain ⟨l2, e2⟩ := List.getElem?_eq_some_iff.1 h2
  rcases Nat.lt_trichotomy i j with hlt | rfl | hlt
  · exact absurd (e1.trans e2.symm) (h i j l1 l2 hlt)
  · rfl
  · exact absurd (e2.trans e1.symm) (h j i l2 l1 hlt)
theorem addId_ok {keep n : Nat} {L : List Nat} (h : KOk keep n L) (id : Nat) : KOk keep n (addId n L id) := by
  unfold addId
  cases e : posOf L id with
  | some _ => exact h
  | none =>
    simp only
    cases hb : Nat.blt id n with
    | false => exact h
    | true =>
      rw [Nat.blt_eq] at hb
      have hm := posOf_mem e
      refine ⟨fun x hx => ?_, ?_, fun x h1 h2 => ?_⟩
      · simp only [cond_true, List.mem_append, List.mem_singleton] at hx
        rcases hx with hx | rfl
        · exact h.lt x hx
        · exact hb
      · simp only [cond_true]
        rw [List.nodup_append]
        refine ⟨h.nd, by simp, ?_⟩
        intro x hx y hy
        simp only [List.mem_singleton] at hy
        subst hy
        intro e'
        subst e'
        exact hm hx
      · have := h.pre x h1 h2
        simp only [cond_true]
        rw [List.getElem?_append_left (List.getElem?_eq_some_iff.1 this).1]
        exact this
theorem addV_ok {keep n : Nat} {L : List Nat} (h : KOk keep n L) (v : V) : KOk keep n (addV n L v) := by
  unfold addV
  split <;> first | exact addId_ok h _ | exact h
theorem foldl_addV_ok {keep n : Nat} : ∀ (us : List V) {L : List Nat}, KOk keep n L → KOk keep n (us.foldl (addV n) L)
  | [], _, h => h
  | u :: us, _, h => foldl_addV_ok us (addV_ok h u)
theorem followed_ok {keep n : Nat} {H : Heap} : ∀ (ids : List Nat) {L : List Nat}, KOk keep n L → KOk keep n (followed n H ids L)
  | [], _, h => h
  | id :: r, L, h => by
    unfold followed
    split
    · exact followed_ok r (foldl_addV_ok _ h)
    · exact followed_ok r h
theorem gathered_ok {keep n : Nat} {fr : Fr} : ∀ (sl : List Nat) {L : List Nat}, KOk keep n L → KOk keep n (gathered n fr sl L)
  | [], _, h => h
  | s :: r, L, h => by
    refine gathered_ok r ?_
    unfold addV
    split <;> first | exact addId_ok h _ | exact h
theorem keptL_ok (a : Ann) (fr : Fr) (H : Heap) : KOk a.keep H.length (keptL a fr H) := by
  unfold keptL
  cases a.gather with
  | false => exact idsOf_ok H a.keep
  | true => exact followed_ok _ (gathered_ok a.slots (idsOf_ok H a.keep))

theorem gNorm_get {g : List G} {L : List Nat} {id j : Nat} {x : G} (hid : posOf L id = some j) (h : g[id]? = some x) : (gNorm L g)[j]? = some x.again := by
  simp only [gNorm, List.getElem?_map, posOf_get hid, Option.map_some, gAt, h]

theorem scrub_sound {g : List G} {M : Mem} {H : Heap} {w : World} (hr : HR H g M w) (L : List Nat) {v : V} {c : Value} (hv : VR g M v c) : VR (gNorm L g) M (scrub H L v) c := by
  have other : ∀ u, u = v → VR (gNorm L g) M (bif immut u then u else .undef) c := by
    rintro u rfl
    cases hi : immut u with
    | true => exact hv.imm hi
    | false => exact .undef _
  cases v <;> simp only [scrub] <;> try exact other _ rfl
  case ptr id off =>
    cases e : posOf L id with
    | none => exact .undef _
    | some j =>
      cases hv with
      | ptr _ _ b h => exact .ptr j off b (gNorm_get e h)
  case bptr id =>
    cases e : posOf L id with
    | none => exact .undef _
    | some j =>
      cases hv with
      | bptr _ b buf h => exact .bptr j b buf (gNorm_get e h)
  case obj id ver =>
    cases e : posOf L id with
    | none => exact .undef _
    | some j =>
      cases hv with
      | obj _ _ ver' sz h _ h1 h2 h3 h4 =>
        simp only
        split
        · rename_i ver2 t xs hid
          have ho := hr.ob id _ _ hid h1
          simp only [ObOk] at ho
          cases hb : Nat.beq ver ver2 with
          | false => exact .undef _
          | true =>
            simp only [cond_true]
            refine .obj j 0 0 sz h c (gNorm_get e h1) (Nat.le_refl _) (fun _ => h3 ?_) h4
            rw [ho.1]; exact beq_true hb
        · rename_i ver2 t xs hid
          have ho := hr.ob id _ _ hid h1
          simp only [ObOk] at ho
          cases hb : Nat.beq ver ver2 with
          | false => exact .undef _
          | true =>
            simp only [cond_true]
            refine .obj j 0 0 sz h c (gNorm_get e h1) (Nat.le_refl _) (fun _ => h3 ?_) h4
            rw [ho.1]; exact beq_true hb
        · exact .undef _
  case dob id ver =>
    cases e : posOf L id with
    | none => exact .undef _
    | some j =>
      cases hv with
      | dob _ _ ver' iv sz bs ih h _ h1 h2 h3 h4 =>
        simp only
        split
        · rename_i ver2 iv2 t xs hid
          have ho := hr.ob id _ _ hid h1
          simp only [ObOk] at ho
          cases hb : Nat.beq ver ver2 with
          | false => exact .undef _
          | true =>
            simp only [cond_true]
            refine .dob j 0 0 0 sz bs ih h c (gNorm_get e h1) (Nat.le_refl _) (fun _ => h3 ?_) h4
            rw [ho.1.1]; exact beq_true hb
        · exact .undef _

theorem get_map (f : Nat → V) : ∀ (l : List Nat) (t : Nat), Fr.get (l.map fun s => (s, f s)) t = f t ∨ Fr.get (l.map fun s => (s, f s)) t = .undef
  | [], t => .inr rfl
  | s :: l, t => by
    simp only [List.map_cons, Fr.get]
    cases e : Nat.beq s t with
    | true => rw [beq_true e]; exact .inl rfl
    | false => exact get_map f l t

theorem normH_get {L : List Nat} {H : Heap} {j : Nat} {o : Ob} (hL : ∀ id ∈ L, id < H.length) (h : (normHL L H)[j]? = some o) : ∃ id, L[j]? = some id ∧ ∃ o', H[id]? = some o' ∧ o = scrubOb H L o' := by
  simp only [normHL, List.getElem?_map, Option.map_eq_some_iff] at h
  obtain ⟨id, h1, h2⟩ := h
  have hlt := hL id (List.mem_of_getElem? h1)
  refine ⟨id, h1, H[id], List.getElem?_eq_getElem hlt, ?_⟩
  rw [← h2]
  simp only [obAt, List.getElem?_eq_getElem hlt]

theorem gNorm_get' {g : List G} {L : List Nat} {j id : Nat} {x : G} (hid : L[j]? = some id) (hlt : id < g.length) (h : (gNorm L g)[j]? = some x) : ∃ x', g[id]? = some x' ∧ x = x'.again := by
  simp only [gNorm, List.getElem?_map, hid, Option.map_some, Option.some.injEq] at h
  refine ⟨g[id], List.getElem?_eq_getElem hlt, ?_⟩
  rw [← h]
  simp only [gAt, List.getElem?_eq_getElem hlt]

theorem ownB_scrub {H : Heap} {L : List Nat} {o : Ob} {x : G} : ownB (scrubOb H L o) x.again = ownB o x := by
  cases o <;> cases x <;> first | rfl | skip
  rename_i h ver sz
  cases h <;> first | rfl | (rename_i ad _ _; cases ad <;> rfl)

theorem VRs_scrub {g : List G} {M : Mem} {H : Heap} {w : World} (hr : HR H g M w) (L : List Nat) : ∀ {vs : List V} {cs : List Value}, VRs g M vs cs → VRs (gNorm L g) M (vs.map (scrub H L)) cs
  | _, _, .nil => .nil
  | _, _, .cons h t => .cons (scrub_sound hr L h) (VRs_scrub hr L t)

theorem norm_hr {keep : Nat} {L : List Nat} {H : Heap} {g : List G} {M : Mem} {w : World} (hk : KOk keep H.length L) (hz : own0.n ≤ keep) (hr : HR H g M w) (hb : Base w0 M0 own0 H g M w) :
    HR (normHL L H) (gNorm L g) M w ∧ Base w0 M0 own0 (normHL L H) (gNorm L g) M w := by
  have hlen := hr.len
  refine ⟨⟨?_, ?_, ?_, hr.mem⟩, ⟨hb.size, hb.keep, ?_, hb.mle, hb.mnew, hb.os, hb.tape, hb.output, fun id b hid => ?_⟩⟩
  · simp [normHL, gNorm]
  · intro j o x h1 h2
    obtain ⟨id, hid, o', k1, rfl⟩ := normH_get hk.lt h1
    obtain ⟨x', k2, rfl⟩ := gNorm_get' hid (by rw [← hlen]; exact hk.lt id (List.mem_of_getElem? hid)) h2
    have ho := hr.ob id o' x' k1 k2
    cases o' <;> cases x' <;> simp only [ObOk, scrubOb, G.again] at ho ⊢ <;> try exact ho
    · obtain ⟨c, T, fz, p1, p2, p3, p4⟩ := ho
      exact ⟨c, T, fz, p1, VRs_scrub hr _ p2, p3, p4⟩
    · obtain ⟨p1, p2, p3, p4⟩ := ho
      refine ⟨trivial, p2, p3, p4.imp (fun e => e) ?_⟩
      rintro ⟨b, cap, c, T, fz, rfl, k2, k3, k4, k5, k6, k7⟩
      exact ⟨b, cap, c, T, fz, rfl, k2, k3, k4, fun i x hx => (k5 i x hx).imm (immuts_enc _ x), k6, k7⟩
    · exact ⟨trivial, ho.2.1, ho.2.2.imm rfl⟩
    · exact ⟨⟨trivial, trivial, ho.1.2.2⟩, ho.2⟩
  · intro j j' o o' x x' b h1 h2 h3 h4 h5 h6
    obtain ⟨id, i1, p, k1, rfl⟩ := normH_get hk.lt h1
    obtain ⟨q, k2, rfl⟩ := gNorm_get' i1 (by rw [← hlen]; exact hk.lt id (List.mem_of_getElem? i1)) h2
    obtain ⟨id', i2, p', k3, rfl⟩ := normH_get hk.lt h3
    obtain ⟨q', k4, rfl⟩ := gNorm_get' i2 (by rw [← hlen]; exact hk.lt id' (List.mem_of_getElem? i2)) h4
    rw [ownB_scrub] at h5 h6
    have e := hr.apart id id' p p' q q' b k1 k2 k3 k4 h5 h6
    subst e
    exact nodup_pos hk.nd i1 i2
  · rintro b ⟨j, o, x, h1, h2, h3⟩
    obtain ⟨id, i1, p, k1, rfl⟩ := normH_get hk.lt h1
    obtain ⟨q, k2, rfl⟩ := gNorm_get' i1 (by rw [← hlen]; exact hk.lt id (List.mem_of_getElem? i1)) h2
    rw [ownB_scrub] at h3
    exact hb.own b ⟨id, p, q, k1, k2, h3⟩
  · have hx := hb.gbox id b hid
    have hag : b.again = b := by
      have := own0.fx id b hid
      cases b with
      | box _ => rfl
      | bld _ _ => rfl
      | sl h ver sz => simp only [G.fixed] at this; rw [beq_true this]; rfl
      | dp h ver iv sz bs ih => simp only [G.fixed, Bool.and_eq_true] at this; rw [beq_true this.1, beq_true this.2]; rfl
    have hl : id < H.length := by rw [hlen]; exact (List.getElem?_eq_some_iff.1 hx).1
    have := hk.pre id (Nat.lt_of_lt_of_le (own0.lt id b hid) hz) hl
    simp only [gNorm, List.getElem?_map, this, Option.map_some, gAt, hx, hag]
theorem norm_good {a : Ann} {fr : Fr} {H : Heap} {ac : Act} {w : World} (hz : own0.n ≤ a.keep) (h : Good C w0 M0 own0 fr H ac w) : Good C w0 M0 own0 (normFr a fr H) (normH a fr H) ac w := by
  obtain ⟨g, M, hf, hr, hb⟩ := h
  have hk := keptL_ok a fr H
  unfold normFr normH
  generalize keptL a fr H = L at hk ⊢
  obtain ⟨h1, h2⟩ := norm_hr hk hz hr hb
  refine ⟨gNorm L g, M, ⟨fun t => ?_, hf.size, hf.defers⟩, h1, h2⟩
  rcases get_map (fun s => scrub H L (fr.get s)) a.slots t with e | e
  · rw [normFrL, e]; exact scrub_sound hr _ (hf.get t)
  · rw [normFrL, e]; exact .undef _
end
end Go.Ev

/- Operations that leave the memory alone, in a greater memory. -/
set_option linter.unusedVariables false
set_option linter.unusedSimpArgs false
namespace Go.Ev

section
variable {C : Ctx} {H X : Heap}
theorem get_ext {id : Nat} {o : Ob} (h : H[id]? = some o) : (H ++ X)[id]? = some o := by
  rw [List.getElem?_append_left]
  · exact h
  · rcases Nat.lt_or_ge id H.length with h' | h'
    · exact h'
    · rw [List.getElem?_eq_none h'] at h; cases h

theorem loadV_ext {t : TypeId} {x : V} {K : V → Prop} (h : loadV C t x H K) : loadV C t x (H ++ X) K := by
  cases x <;> simp only [loadV] at h ⊢ <;> try exact h
  · split at h
    · rename_i cells hid
      rw [get_ext hid]; exact h
    · exact h.elim
  · split at h
    · rename_i v t xs hid
      rw [get_ext hid]; exact h
    · rename_i v t xs hid
      rw [get_ext hid]; exact h
    · exact h.elim
  · split at h
    · rename_i hid
      rw [get_ext hid]; exact h
    · exact h.elim

theorem indexAddrV_ext {t : TypeId} {x ix : V} {K : V → Prop} (h : indexAddrV C t x ix H K) : indexAddrV C t x ix (H ++ X) K := by
  cases ix <;> simp only [indexAddrV] at h ⊢ <;> try exact h
  rename_i k n
  cases hd : (C.ti t).desc <;> simp only [hd] at h ⊢ <;> try exact h
  rename_i e
  cases hq : (Nat.beq (C.ti e).size (C.ti t).ty.size && !Nat.beq (C.ti e).size 0) with
  | false => simp only [hq, cond_false] at h
  | true =>
    simp only [hq, cond_true] at h ⊢
    cases x <;> simp only at h ⊢ <;> try exact h
    · split at h
      · rename_i v t xs hid
        rw [get_ext hid]; exact h
      · rename_i v t xs hid
        rw [get_ext hid]; exact h
      · exact h.elim
    · split at h
      · rename_i hid
        rw [get_ext hid]; exact h
      · exact h.elim

theorem lenV_ext {x : V} {K : V → Prop} (h : lenV x H K) : lenV x (H ++ X) K := by
  cases x <;> simp only [lenV] at h ⊢ <;> try exact h
  · split at h
    · rename_i v t xs hid
      rw [get_ext hid]; exact h
    · rename_i v t xs hid
      rw [get_ext hid]; exact h
    · exact h.elim
  · split at h
    · rename_i hid
      rw [get_ext hid]; exact h
    · exact h.elim
theorem listOf_ext {t : Ty} {v : V} {xs : List t.den} (h : listOf H t v = some xs) : listOf (H ++ X) t v = some xs := by
  cases v <;> simp only [listOf] at h ⊢ <;> try exact h
  split at h
  · rename_i hid
    rw [get_ext hid]; exact h
  · rename_i hid
    rw [get_ext hid]; exact h
  · cases h
theorem bytesToStrV_ext {s d : TypeId} {x : V} {K : V → Prop} (h : bytesToStrV C s d x H K) : bytesToStrV C s d x (H ++ X) K := by
  unfold bytesToStrV at h ⊢
  split at h
  · split at h
    · split at h
      · split at h
        · rename_i xs hxs
          rw [listOf_ext hxs]; exact h
        · exact h.elim
      · exact h.elim
    · exact h.elim
  · exact h.elim
theorem view1_ext {v v' : V} (h : view1 H v = some v') : view1 (H ++ X) v = some v' := by
  cases v <;> simp only [view1] at h ⊢ <;> try exact h
  · split at h
    · rename_i hid
      rw [get_ext hid]; exact h
    · rename_i hid
      rw [get_ext hid]; exact h
    · cases h
  · split at h
    · rename_i hid
      rw [get_ext hid]; exact h
    · cases h
  · split at h
    · rename_i hid
      rw [get_ext hid]; exact h
    · cases h
theorem views1_ext : ∀ {vs vs' : List V}, views1 H vs = some vs' → views1 (H ++ X) vs = some vs'
  | [], _, h => h
  | v :: vs, vs', h => by
    simp only [views1] at h ⊢
    split at h
    · rename_i u hu
      split at h
      · rename_i us hus
        rw [view1_ext hu, views1_ext hus]; exact h
      · cases h
    · cases h
theorem view2_ext {v v' : V} (h : view2 H v = some v') : view2 (H ++ X) v = some v' := by
  cases v <;> simp only [view2] at h ⊢ <;> try exact view1_ext h
  · split at h
    · rename_i us hus
      rw [views1_ext hus]; exact h
    · cases h
  · split at h
    · rename_i cells hid
      rw [get_ext hid]
      simp only
      split at h
      · rename_i us hus
        rw [views1_ext hus]; exact h
      · cases h
    · cases h
  · split at h
    · rename_i hid
      rw [get_ext hid]; exact h
    · rename_i hid
      rw [get_ext hid]; exact h
    · cases h
  · split at h
    · rename_i cells hid
      rw [get_ext hid]; exact h
    · cases h
theorem views2_ext : ∀ {vs vs' : List V}, views2 H vs = some vs' → views2 (H ++ X) vs = some vs'
  | [], _, h => h
  | v :: vs, vs', h => by
    simp only [views2] at h ⊢
    split at h
    · rename_i u hu
      split at h
      · rename_i us hus
        rw [view2_ext hu, views2_ext hus]; exact h
      · cases h
    · cases h
theorem view3_ext {v v' : V} (h : view3 H v = some v') : view3 (H ++ X) v = some v' := by
  cases v <;> simp only [view3] at h ⊢ <;> try exact view2_ext h
  split at h
  · rename_i us hus
    rw [views2_ext hus]; exact h
  · cases h
theorem views3_ext : ∀ {vs vs' : List V}, views3 H vs = some vs' → views3 (H ++ X) vs = some vs'
  | [], _, h => h
  | v :: vs, vs', h => by
    simp only [views3] at h ⊢
    split at h
    · rename_i u hu
      split at h
      · rename_i us hus
        rw [view3_ext hu, views3_ext hus]; exact h
      · cases h
    · cases h

def Quiet (C : Ctx) (o : Oper) (ρ : Operand → V) (H : Heap) (K : V → Heap → Prop) : Prop :=
  ∃ v, K v H ∧ (∀ (X : Heap) (K' : V → Heap → Prop), K' v (H ++ X) → evalOpD C o ρ (H ++ X) K') ∧ (kindOf C o.op = .blind → ∀ (H' : Heap) (K' : V → Heap → Prop), K' v H' → evalOpD C o ρ H' K')

theorem quiet_blind {o : Oper} {ρ : Operand → V} {K : V → Heap → Prop} {F : (V → Prop) → Prop} (hF : Ang1 F) (e : ∀ (H' : Heap) (K' : V → Heap → Prop), evalOpD C o ρ H' K' = F (fun v => K' v H')) (h : evalOpD C o ρ H K) : Quiet C o ρ H K := by
  rw [e] at h
  obtain ⟨v, h1, h2⟩ := hF _ h
  exact ⟨v, h1, fun X K' h' => by rw [e]; exact h2 (fun u => K' u (H ++ X)) h', fun _ H' K' h' => by rw [e]; exact h2 (fun u => K' u H') h'⟩

theorem quiet_reads {o : Oper} {ρ : Operand → V} {K : V → Heap → Prop} {F : Heap → (V → Prop) → Prop} (hF : ∀ H', Ang1 (F H')) (hk : kindOf C o.op ≠ .blind) (e : ∀ (H' : Heap) (K' : V → Heap → Prop), evalOpD C o ρ H' K' = F H' (fun v => K' v H'))
    (hx : ∀ (X : Heap) (K' : V → Prop), F H K' → F (H ++ X) K') (h : evalOpD C o ρ H K) : Quiet C o ρ H K := by
  rw [e] at h
  obtain ⟨v, h1, h2⟩ := hF H _ h
  refine ⟨v, h1, fun X K' h' => ?_, fun hb => absurd hb hk⟩
  rw [e]
  obtain ⟨u, rfl, h4⟩ := hF (H ++ X) _ (hx X (fun u => u = v) (h2 _ rfl))
  exact h4 _ h'

theorem noFrz_ext {v : V} (h : noFrz H v = true) : noFrz (H ++ X) v = true := by
  cases v <;> simp only [noFrz] at h ⊢
  rename_i id ver
  split at h
  · rename_i hid
    rw [get_ext hid]
  · cases h

theorem sliceV_still {t : TypeId} {x : V} {lo hi : Option V} {K : V → Heap → Prop} (hn : noFrz H x = true) : sliceV C t x lo hi H K = sliceV C t x lo hi H (fun v _ => K v H) := by
  unfold sliceV
  cases loOf lo with
  | none => rfl
  | some l =>
    simp only
    cases (C.ti t).desc <;> simp only <;> try rfl
    rename_i e
    cases (Nat.beq (C.ti e).size (C.ti t).ty.size && !Nat.beq (C.ti e).size 0) with
    | false => rfl
    | true =>
      simp only [cond_true]
      cases x <;> simp only
      rename_i id ver
      simp only [noFrz] at hn
      split at hn
      · rename_i hid
        rw [hid]
      · cases hn

theorem sliceV_ext {t : TypeId} {x : V} {lo hi : Option V} {K : V → Prop} (hn : noFrz H x = true) (h : sliceV C t x lo hi H (fun v _ => K v)) : sliceV C t x lo hi (H ++ X) (fun v _ => K v) := by
  unfold sliceV at h ⊢
  revert h
  cases loOf lo with
  | none => exact id
  | some l =>
    simp only
    cases (C.ti t).desc <;> simp only <;> try exact id
    rename_i e
    cases (Nat.beq (C.ti e).size (C.ti t).ty.size && !Nat.beq (C.ti e).size 0) with
    | false => exact id
    | true =>
      simp only [cond_true]
      cases x <;> simp only <;> try exact id
      rename_i id ver
      simp only [noFrz] at hn
      split at hn
      · rename_i hid
        rw [hid, get_ext hid]
        exact fun h => h
      · cases hn

theorem quiet_D (hc : CallAng C) (o : Oper) (ρ : Operand → V) (hρ : ∀ f, ρ (.func f) = .fn f []) (H : Heap) (K : V → Heap → Prop) (hq : (kindOf C o.op).eff = false) (h : evalOpD C o ρ H K) : Quiet C o ρ H K := by
  obtain ⟨dst, op, type, pos, after, guard⟩ := o
  cases op <;> simp only [kindOf, Kd.eff] at hq <;> try (cases hq; done)
  case buildSlice t len ps =>
    cases hdr : (C.dr && Nat.beq len 0) with
    | true => exact quiet_blind (F := fun K => buildDr C t len (ps.toList.map fun p => (p.1, ρ p.2)) K) (buildDr_ang t len _) (fun _ _ => by simp only [evalOpD, evalOp, frz1_dr (Bool.and_eq_true .. ▸ hdr).1]; exact buildSliceV_dr hdr _ _ _) h
    | false =>
      rw [hdr] at hq
      cases hdv : (C.dr && (C.mv && flatTy (C.ti t).ty)) with
      | true => exact quiet_blind (F := fun K => buildDv C t len (ps.toList.map fun p => (p.1, ρ p.2)) K) (buildDv_ang t len _) (fun _ _ => by simp only [evalOpD, evalOp, frz1_dr (Bool.and_eq_true .. ▸ hdv).1]; exact buildSliceV_dv hdr hdv _ _ _) h
      | false =>
      rw [hdv] at hq
      cases hd : (C.deep || frzOn C) <;> rw [hd] at hq <;> cases hq
  case move x => exact quiet_blind (F := fun K => K (ρ x)) (ang1_pure _) (fun _ _ => rfl) h
  case assign x => exact quiet_blind (F := fun K => K (ρ x)) (ang1_pure _) (fun _ _ => rfl) h
  case pick c x y =>
    refine quiet_blind (F := fun K => match ρ c with | .bool t => cond t (K (ρ x)) (K (ρ y)) | _ => False) ?_ (fun _ _ => rfl) h
    split
    · exact ang1_cond _ (ang1_pure _) (ang1_pure _)
    · exact ang1_false
  case nilCheck x =>
    refine quiet_blind (F := fun K => match ρ x with | .ptr id off => K (.ptr id off) | .ref cs off => K (.ref cs off) | .eptr id ver i off => K (.eptr id ver i off) | .fn f vs => K (.fn f vs) | _ => False) ?_ (fun _ _ => by simp only [evalOpD, evalOp]; cases ρ x <;> rfl) h
    split <;> first | exact ang1_pure _ | exact ang1_false
  case binOp op t x y yt => exact quiet_blind (F := fun K => binV C op t (ρ x) (ρ y) K) (binV_ang op t _ _) (fun _ _ => rfl) h
  case unOp op t x => exact quiet_blind (F := fun K => unV op (ρ x) K) (unV_ang op _) (fun _ _ => rfl) h
  case convert s d x =>
    cases hk : cvKind C s d with
    | reads => exact quiet_reads (F := fun H' K => bytesToStrV C s d (ρ x) H' K) (fun H' => bytesToStrV_ang s d _ H') (by simp [kindOf, hk]) (fun _ _ => by simp only [evalOpD, evalOp, hk]) (fun X K' h => bytesToStrV_ext h) h
    | alloc => rw [hk] at hq; cases hq
    | blind => exact quiet_blind (F := fun K => convV C s d (ρ x) K) (convV_ang s d _) (fun _ _ => by simp only [evalOpD, evalOp, hk]) h
    | writes => rw [hk] at hq; cases hq
  case fieldAddr s x f => exact quiet_blind (F := fun K => fieldAddrV C s (ρ x) f K) (fieldAddrV_ang s _ f) (fun _ _ => rfl) h
  case field s x f => exact quiet_blind (F := fun K => fieldV C s (ρ x) f K) (fieldV_ang s _ f) (fun _ _ => rfl) h
  case index t x i => exact quiet_blind (F := fun K => indexV C t (ρ x) (ρ i) K) (indexV_ang t _ _) (fun _ _ => rfl) h
  case extract x i => exact quiet_blind (F := fun K => extractV (ρ x) i K) (extractV_ang _ i) (fun _ _ => rfl) h
  case build t ps => exact quiet_blind (F := fun K => buildV C t (ps.toList.map fun p => (p.1, ρ p.2)) K) (buildV_ang t _) (fun _ _ => rfl) h
  case load t x => exact quiet_reads (F := fun H' K => loadV C t (ρ x) H' K) (fun H' => loadV_ang t _ H') (by simp [kindOf]) (fun _ _ => rfl) (fun X K' h => loadV_ext h) h
  case indexAddr t x i => exact quiet_reads (F := fun H' K => indexAddrV C t (ρ x) (ρ i) H' K) (fun H' => indexAddrV_ang t _ _ H') (by simp [kindOf]) (fun _ _ => rfl) (fun X K' h => indexAddrV_ext h) h
  case slice t x lo hi mx =>
    have hct : C.cut = false := by revert hq; cases C.cut <;> simp [Kd.eff]
    cases mx with
    | some m =>
      simp only [evalOpD, evalOp] at h
      cases hn : (C.cut || noFrz H (ρ x)) <;> simp only [hn, cond_true, cond_false] at h
    | none =>
      refine quiet_reads (F := fun H' K => bif noFrz H' (ρ x) then sliceV C t (ρ x) (lo.map ρ) (hi.map ρ) H' (fun v _ => K v) else False) (fun H' => ?_) (by simp [kindOf, hct]) (fun H' K' => ?_) (fun X K' h => ?_) h
      · cases noFrz H' (ρ x) with
        | false => exact ang1_false
        | true =>
          simp only [cond_true]
          intro K1 h1
          obtain ⟨v, H1, h2, h3⟩ := sliceV_ang t _ _ _ H' _ h1
          exact ⟨v, h2, fun K2 h4 => h3 (fun v _ => K2 v) h4⟩
      · simp only [evalOpD, evalOp, hct, Bool.false_or]
        cases hn : noFrz H' (ρ x) with
        | false => rfl
        | true => simp only [cond_true]; exact sliceV_still hn
      · cases hn : noFrz H (ρ x) with
        | false => simp only [hn, cond_false] at h
        | true =>
          simp only [hn, noFrz_ext hn, cond_true] at h ⊢
          exact sliceV_ext hn h
  case call c =>
    obtain ⟨callee, args, argTypes⟩ := c
    cases callee with
    | invoke x m => simp only [kindOf, Kd.eff] at hq; cases hq
    | value f =>
      cases f with
      | func fid =>
        simp only [kindOf] at hq
        have hp : C.pass fid = .view := by
          revert hq
          cases C.pass fid <;> simp [Kd.eff]
        have hcf := hc fid
        simp only [hp] at hcf
        have e : ∀ (H' : Heap) (K' : V → Heap → Prop), evalOpD C ⟨dst, .call ⟨.value (.func fid), args, argTypes⟩, type, pos, after, guard⟩ ρ H' K' = callV C fid (args.toList.map ρ) H' K' := by
          intro H' K'
          simp only [evalOpD, evalOp, hρ, List.append_nil]
        refine quiet_reads (F := fun H' K => callV C fid (args.toList.map ρ) H' (fun v _ => K v)) (fun H' => ?_) (by simp [kindOf, hp]) (fun H' K' => ?_) (fun X K' h => ?_) h
        · intro K1 h1
          obtain ⟨v, H1, h2, _, h3⟩ := callV_ang hc fid _ H' _ h1
          exact ⟨v, h2, fun K2 h4 => h3 (fun v _ => K2 v) h4⟩
        · rw [e]
          unfold callV
          simp only [hp]
        · unfold callV at h ⊢
          simp only [hp] at h ⊢
          cases hi : immuts (args.toList.map ρ) with
          | true =>
            simp only [hi, cond_true] at h ⊢
            exact h
          | false =>
            simp only [hi, cond_false, views3K_eq] at h ⊢
            split at h
            · rename_i as has
              rw [views3_ext has]; exact h
            · exact h.elim
      | tmp n =>
        simp only [evalOpD] at h
        cases hv : viewFn C (ρ (.tmp n)) with
        | false => rw [hv] at h; exact h.elim
        | true =>
          rw [hv, cond_true] at h
          obtain ⟨g, cap, hf⟩ : ∃ g cap, ρ (.tmp n) = .fn g cap := by
            revert hv
            cases ρ (.tmp n) with
            | fn g cap => exact fun _ => ⟨g, cap, rfl⟩
            | _ => exact fun e => by cases e
          have hp : C.pass g = .view := by
            rw [hf] at hv
            unfold viewFn at hv
            simp only at hv
            cases hpp : C.pass g <;> rw [hpp] at hv <;> first | rfl | cases hv
          have e : ∀ (H' : Heap) (K' : V → Heap → Prop), evalOpD C ⟨dst, .call ⟨.value (.tmp n), args, argTypes⟩, type, pos, after, guard⟩ ρ H' K' = callV C g (args.toList.map ρ ++ cap) H' K' := by
            intro H' K'
            simp only [evalOpD, evalOp, hf, viewFn, hp, cond_true]
          refine quiet_reads (F := fun H' K => callV C g (args.toList.map ρ ++ cap) H' (fun v _ => K v)) (fun H' => ?_) (by simp [kindOf]) (fun H' K' => ?_) (fun X K' h => ?_) (by
            simp only [evalOpD, hv, cond_true]
            exact h)
          · intro K1 h1
            obtain ⟨v, H1, h2, _, h3⟩ := callV_ang hc g _ H' _ h1
            exact ⟨v, h2, fun K2 h4 => h3 (fun v _ => K2 v) h4⟩
          · rw [e]
            unfold callV
            simp only [hp]
          · unfold callV at h ⊢
            simp only [hp] at h ⊢
            cases hi : immuts (args.toList.map ρ ++ cap) with
            | true =>
              simp only [hi, cond_true] at h ⊢
              exact h
            | false =>
              simp only [hi, cond_false, views3K_eq] at h ⊢
              split at h
              · rename_i as has
                rw [views3_ext has]; exact h
              · exact h.elim
      | _ => simp only [kindOf, Kd.eff] at hq; cases hq
    | builtin b =>
      cases b <;> simp only [kindOf, Kd.eff] at hq <;> try (cases hq; done)
      case len =>
        have e : ∃ F : Heap → (V → Prop) → Prop, (∀ H', Ang1 (F H')) ∧ (∀ (H' : Heap) (K' : V → Heap → Prop), evalOp C ⟨dst, .call ⟨.builtin .len, args, argTypes⟩, type, pos, after, guard⟩ ρ H' K' = F H' (fun v => K' v H')) ∧ (∀ (X : Heap) (K' : V → Prop), F H K' → F (H ++ X) K') ∧
            ((args.toList.map ρ).all noOb = true → ∀ (H1 H2 : Heap) (K' : V → Prop), F H1 K' = F H2 K') := by
          refine ⟨fun H' K => match args.toList with
            | [x] => match argTypes.toList with
              | [t] => match (C.ti t).desc with
                | .slice _ => lenV (ρ x) H' fun v => K v
                | .string => match ρ x with
                  | .str s => K (.int .i64 s.length)
                  | _ => False
                | .array n _ => bif Nat.ble n 9223372036854775807 then K (.int .i64 n) else False
                | _ => False
              | _ => False
            | _ => False, fun H' => ?_, fun H' K' => ?_, fun X K' => ?_, fun hn H1 H2 K' => ?_⟩
          · repeat' first | exact ang1_false | exact ang1_pure _ | exact lenV_ang _ _ | refine ang1_cond _ ?_ ?_ | split
          · simp only [evalOp]
            rfl
          · split
            · split
              · split
                · exact lenV_ext
                · exact id
                · exact id
                · exact id
              · exact id
            · exact id
          · split
            · rename_i x hx
              rw [hx] at hn
              simp only [List.map_cons, List.map_nil, List.all_cons, List.all_nil, Bool.and_true] at hn
              have : ∀ K0 : V → Prop, lenV (ρ x) H1 K0 = lenV (ρ x) H2 K0 := by
                intro K0
                generalize ρ x = v at hn
                cases v <;> first | rfl | cases hn
              simp only [this]
            · rfl
        obtain ⟨F, e1, e2, e3, e4⟩ := e
        cases hmv : C.mvl with
        | false =>
          have ed : ∀ (H' : Heap) (K' : V → Heap → Prop), evalOpD C ⟨dst, .call ⟨.builtin .len, args, argTypes⟩, type, pos, after, guard⟩ ρ H' K' = F H' (fun v => K' v H') := fun H' K' => by
            simp only [evalOpD, hmv, Bool.not_false, Bool.true_or, cond_true]
            exact e2 H' K'
          exact quiet_reads e1 (by simp [kindOf, hmv]) ed e3 h
        | true =>
          cases hn : (args.toList.map ρ).all noOb with
          | false => simp only [evalOpD, hmv, hn, Bool.not_true, Bool.or_false, cond_false] at h
          | true =>
            refine quiet_blind (F := F H) (e1 H) (fun H' K' => ?_) h
            simp only [evalOpD, hmv, hn, Bool.or_true, cond_true]
            rw [e2 H' K']
            exact e4 hn H' H _
      case max =>
        refine quiet_blind (F := fun K => match args.toList with | [x, y] => maxV (ρ x) (ρ y) K | _ => False) ?_ (fun _ _ => rfl) h
        split
        · exact maxV_ang _ _
        · exact ang1_false
      case min =>
        refine quiet_blind (F := fun K => match args.toList with | [x, y] => minV (ρ x) (ρ y) K | _ => False) ?_ (fun _ _ => rfl) h
        split
        · exact minV_ang _ _
        · exact ang1_false

def AngX (H : Heap) (T : (V → Heap → Prop) → Prop) : Prop := ∀ K, T K → ∃ v X, K v (H ++ X) ∧ ∀ K' : V → Heap → Prop, K' v (H ++ X) → T K'
theorem angX_false {H : Heap} : AngX H (fun _ => False) := fun _ h => h.elim
theorem angX_pure {H : Heap} (v : V) (X : Heap) : AngX H (fun K => K v (H ++ X)) := fun _ h => ⟨v, X, h, fun _ h => h⟩
theorem angX_cond {H : Heap} (b : Bool) {S T : (V → Heap → Prop) → Prop} (h1 : AngX H S) (h2 : AngX H T) : AngX H (fun K => cond b (S K) (T K)) := by
  cases b
  · exact h2
  · exact h1
theorem makeSliceV_x (t : TypeId) (l c : V) (H : Heap) : AngX H (fun K => makeSliceV C t l c H K) := by
  unfold makeSliceV
  repeat' first | exact angX_false | exact angX_pure _ _ | refine angX_cond _ ?_ ?_ | split
theorem buildSliceV_x (hd : C.deep = false) (t : TypeId) (len : Nat) (hr : (C.dr && Nat.beq len 0) = false) (hv : (C.dr && (C.mv && flatTy (C.ti t).ty)) = false) (ps : List (Nat × V)) (H : Heap) : AngX H (fun K => buildSliceV C t len ps H K) := by
  unfold buildSliceV
  simp only [hd, hr, hv, Bool.false_and, cond_false]
  repeat' first | exact angX_false | exact angX_pure _ _ | refine angX_cond _ ?_ ?_ | split
theorem eff_D (hc : CallAng C) (o : Oper) (ρ : Operand → V) (hρ : ∀ f, ρ (.func f) = .fn f []) (H : Heap) (K : V → Heap → Prop) (h : evalOpD C o ρ H K) :
    ∃ v H', K v H' ∧ (∀ K' : V → Heap → Prop, K' v H' → evalOpD C o ρ H K') ∧ (kindOf C o.op = .alloc → ∃ X, H' = H ++ X) := by
  have gen : kindOf C o.op ≠ .alloc → ∃ v H', K v H' ∧ (∀ K' : V → Heap → Prop, K' v H' → evalOpD C o ρ H K') ∧ (kindOf C o.op = .alloc → ∃ X, H' = H ++ X) := by
    intro hk
    by_cases hs : ∃ t x lo hi mx, o.op = .slice t x lo hi mx
    · obtain ⟨t, x, lo, hi, mx, hs⟩ := hs
      simp only [evalOpD, hs] at h
      cases hn : (C.cut || noFrz H (ρ x)) with
      | false => simp only [hn, cond_false] at h
      | true =>
        simp only [hn, cond_true] at h
        obtain ⟨v, H', h1, _, h2⟩ := evalOp_ang hc o ρ hρ H K h
        exact ⟨v, H', h1, fun K' h' => by simp only [evalOpD, hs, hn, cond_true]; exact h2 K' h', fun e => absurd e hk⟩
    by_cases hs2 : ∃ args tys, o.op = .call ⟨.builtin .len, args, tys⟩
    · obtain ⟨args, tys, hs2⟩ := hs2
      simp only [evalOpD, hs2] at h
      cases hn : (!C.mvl || (args.toList.map ρ).all noOb) with
      | false => simp only [hn, cond_false] at h
      | true =>
        simp only [hn, cond_true] at h
        obtain ⟨v, H', h1, _, h2⟩ := evalOp_ang hc o ρ hρ H K h
        exact ⟨v, H', h1, fun K' h' => by simp only [evalOpD, hs2, hn, cond_true]; exact h2 K' h', fun e => absurd e hk⟩
    by_cases hs3 : ∃ n args tys, o.op = .call ⟨.value (.tmp n), args, tys⟩
    · obtain ⟨n, args, tys, hs3⟩ := hs3
      simp only [evalOpD, hs3] at h
      cases hn : viewFn C (ρ (.tmp n)) with
      | false => simp only [hn, cond_false] at h
      | true =>
        simp only [hn, cond_true] at h
        obtain ⟨v, H', h1, _, h2⟩ := evalOp_ang hc o ρ hρ H K h
        exact ⟨v, H', h1, fun K' h' => by simp only [evalOpD, hs3, hn, cond_true]; exact h2 K' h', fun e => absurd e hk⟩
    · have e : ∀ K', evalOpD C o ρ H K' = evalOp C o ρ H K' := by
        intro K'
        unfold evalOpD
        split
        · rename_i n args tys hop
          exact absurd ⟨n, args, tys, hop⟩ hs3
        · rename_i t x lo hi mx hop
          exact absurd ⟨t, x, lo, hi, mx, hop⟩ hs
        · rename_i args tys hop
          exact absurd ⟨args, tys, hop⟩ hs2
        · rfl
      rw [e] at h
      obtain ⟨v, H', h1, _, h2⟩ := evalOp_ang hc o ρ hρ H K h
      exact ⟨v, H', h1, fun K' h' => by rw [e]; exact h2 K' h', fun e => absurd e hk⟩
  by_cases hk : kindOf C o.op = .alloc
  · obtain ⟨dst, op, type, pos, after, guard⟩ := o
    cases op <;> try (refine gen ?_; simp only [kindOf]; intro e; cases e; done)
    case slice => exact gen (by simp only [kindOf]; cases C.cut <;> simp)
    case call c =>
      obtain ⟨callee, args, argTypes⟩ := c
      cases callee with
      | value f =>
        cases f with
        | func fid => exact gen (by simp only [kindOf]; split <;> simp)
        | _ => exact gen (by simp [kindOf])
      | builtin b =>
        cases b
        case len => exact gen (by simp only [kindOf]; cases C.mvl <;> simp)
        all_goals exact gen (by simp [kindOf])
      | invoke x m => exact gen (by simp [kindOf])
    case alloc t =>
      simp only [evalOpD, evalOp] at h
      split at h
      · rename_i e he
        exact ⟨_, _, h, fun K' h' => by simp only [evalOpD, evalOp, he]; exact h', fun _ => ⟨_, rfl⟩⟩
      · rename_i he
        cases hz : !Nat.beq (C.ti t).size 0 with
        | false => simp only [hz, cond_false] at h
        | true =>
          simp only [hz, cond_true] at h
          exact ⟨_, _, h, fun K' h' => by simp only [evalOpD, evalOp, he, hz, cond_true]; exact h', fun _ => ⟨_, rfl⟩⟩
    case convert s d x =>
      have hk' : cvKind C s d = .alloc := hk
      simp only [evalOpD, evalOp, hk'] at h
      unfold strToBytesV at h
      split at h
      · rename_i h1
        split at h
        · rename_i e h2
          split at h
          · rename_i h3
            split at h
            · rename_i l h4
              split at h
              · rename_i h5
                refine ⟨_, _, h, fun K' h' => ?_, fun _ => ⟨_, rfl⟩⟩
                simp only [evalOpD, evalOp, hk', strToBytesV, h1, h2, h3, h4, h5, if_true]
                exact h'
              · exact h.elim
            · exact h.elim
          · exact h.elim
        · exact h.elim
      · exact h.elim
    case box t x =>
      simp only [evalOpD, evalOp] at h
      split at h
      · rename_i vs hv
        exact ⟨_, _, h, fun K' h' => by simp only [evalOpD, evalOp, hv]; exact h', fun _ => ⟨_, rfl⟩⟩
      · exact h.elim
    case buildSlice t len ps =>
      have hdr : (C.dr && Nat.beq len 0) = false := by
        simp only [kindOf] at hk
        cases hd : (C.dr && Nat.beq len 0) with
        | false => rfl
        | true => rw [hd] at hk; cases hk
      have hdv : (C.dr && (C.mv && flatTy (C.ti t).ty)) = false := by
        simp only [kindOf, hdr, cond_false] at hk
        cases hd : (C.dr && (C.mv && flatTy (C.ti t).ty)) with
        | false => rfl
        | true => rw [hd] at hk; cases hk
      have hdf : (C.deep || frzOn C) = false := by
        simp only [kindOf, hdr, hdv, cond_false] at hk
        cases hd : (C.deep || frzOn C) with
        | false => rfl
        | true => rw [hd] at hk; cases hk
      have hdp : C.deep = false := (Bool.or_eq_false_iff.1 hdf).1
      have hfz := frz1_off (C := C) (H := H) (ps := ps.toList.map fun p => (p.1, ρ p.2)) (Bool.or_eq_false_iff.1 hdf).2
      simp only [evalOpD, evalOp, hfz] at h
      obtain ⟨v, X, h1, h2⟩ := buildSliceV_x hdp t len hdr hdv _ H _ h
      exact ⟨v, _, h1, fun K' h' => by simp only [evalOpD, evalOp, frz1_off (Bool.or_eq_false_iff.1 hdf).2]; exact h2 _ h', fun _ => ⟨X, rfl⟩⟩
    case makeSlice t l c =>
      simp only [evalOpD, evalOp] at h
      obtain ⟨v, X, h1, h2⟩ := makeSliceV_x t _ _ H _ h
      exact ⟨v, _, h1, fun K' h' => by simp only [evalOpD, evalOp]; exact h2 _ h', fun _ => ⟨X, rfl⟩⟩
  · exact gen hk

theorem evalOp_of_D {o : Oper} {ρ : Operand → V} {K : V → Heap → Prop} (h : evalOpD C o ρ H K) : evalOp C o ρ H K := by
  unfold evalOpD at h
  split at h
  · rename_i n args tys hop
    cases hn : viewFn C (ρ (.tmp n)) with
    | false => simp only [hn, cond_false] at h
    | true => simp only [hn, cond_true] at h; exact h
  · rename_i t x lo hi mx hop
    cases hn : (C.cut || noFrz H (ρ x)) with
    | false => simp only [hn, cond_false] at h
    | true => simp only [hn, cond_true] at h; exact h
  · rename_i args tys hop
    cases hn : (!C.mvl || (args.toList.map ρ).all noOb) with
    | false => simp only [hn, cond_false] at h
    | true => simp only [hn, cond_true] at h; exact h
  · exact h
end
end Go.Ev

/- A statement whose order Go leaves open: the order of the text serves for all. -/
set_option linter.unusedVariables false
set_option linter.unusedSimpArgs false
namespace Go.Ev

theorem all_zipIdx {α : Type} {p : α × Nat → Bool} {l : List α} (h : l.zipIdx.all p = true) {i : Nat} {o : α} (hi : l[i]? = some o) : p (o, i) = true := by
  rw [List.all_eq_true] at h
  apply h
  rw [List.mem_iff_getElem?]
  exact ⟨i, by rw [List.getElem?_zipIdx, hi]; simp⟩

theorem edgeOn_sound {o : Oper} {j : Nat} (h : edgeOn o j = true) : ∃ e ∈ o.after, Region.binds .any e = true ∧ e.on = j := by
  simp only [edgeOn, Array.any_eq_true'] at h
  obtain ⟨e, he, h⟩ := h
  simp only [Bool.and_eq_true] at h
  exact ⟨e, he, h.2, beq_true h.1⟩

def unl (listed : Array Bool) : Nat → Nat
  | 0 => 0
  | n + 1 => unl listed n + (bif listed.getD n false then 0 else 1)

theorem unl_set_ge (listed : Array Bool) (i : Nat) : ∀ n, n ≤ i → unl (listed.setIfInBounds i true) n = unl listed n
  | 0, _ => rfl
  | n + 1, h => by
    simp only [unl]
    rw [unl_set_ge listed i n (by omega), getD_set_ne false (by omega)]
theorem unl_set {listed : Array Bool} {i : Nat} (hi : i < listed.size) (h0 : listed.getD i false = false) : ∀ n, i < n → unl (listed.setIfInBounds i true) n + 1 = unl listed n
  | 0, h => by omega
  | n + 1, h => by
    simp only [unl]
    by_cases e : i = n
    · subst e
      rw [unl_set_ge listed i i (Nat.le_refl _), h0]
      have : (listed.setIfInBounds i true).getD i false = true := by simp [hi]
      rw [this]
      rfl
    · have := unl_set hi h0 n (by omega)
      rw [getD_set_ne false e]
      omega
theorem unl_zero {listed : Array Bool} : ∀ n, unl listed n = 0 → ∀ j, j < n → listed.getD j false = true
  | 0, _, j, hj => by omega
  | n + 1, h, j, hj => by
    simp only [unl] at h
    by_cases e : j = n
    · subst e
      cases hl : listed.getD j false with
      | true => rfl
      | false => simp [hl] at h
    · exact unl_zero n (by omega) j (by omega)
theorem unl_all {listed : Array Bool} : ∀ n, (∀ j, j < n → listed.getD j false = true) → unl listed n = 0
  | 0, _ => rfl
  | n + 1, h => by
    simp only [unl]
    rw [unl_all n fun j hj => h j (by omega), h n (by omega)]
    rfl
theorem unl_replicate (n : Nat) : unl (Array.replicate n false) n = n := by
  have : ∀ m, unl (Array.replicate n false) m = m := by
    intro m
    induction m with
    | zero => rfl
    | succ m ih =>
      simp only [unl, ih]
      have : (Array.replicate n false).getD m false = false := by
        by_cases h : m < n <;> simp [Array.getD_eq_getD_getElem?, h]
      rw [this]
      rfl
  exact this n


theorem maskEs_bit {acc : List Nat} : ∀ {es : List Edge} {j : Nat}, (maskEs acc es).testBit j = true → ∃ e ∈ es, Region.binds .any e = true ∧ (e.on = j ∨ (acc.getD e.on 0).testBit j = true)
  | [], j, h => by simp [maskEs] at h
  | e :: r, j, h => by
    simp only [maskEs] at h
    cases hb : Region.binds .any e with
    | false =>
      simp only [hb, cond_false] at h
      obtain ⟨e', h1, h2⟩ := maskEs_bit h
      exact ⟨e', by simp [h1], h2⟩
    | true =>
      simp only [hb, cond_true, Nat.testBit_or, Bool.or_eq_true] at h
      rcases h with (h | h) | h
      · exact ⟨e, by simp, hb, .inr h⟩
      · refine ⟨e, by simp, hb, .inl ?_⟩
        rw [Nat.one_shiftLeft, Nat.testBit_two_pow] at h
        simpa using h
      · obtain ⟨e', h1, h2⟩ := maskEs_bit h
        exact ⟨e', by simp [h1], h2⟩

theorem masksOf_get : ∀ (l : List Oper) (acc : List Nat), (∀ i, i < acc.length → (masksOf l acc)[i]? = acc[i]?) ∧
    ∀ (i : Nat) (o : Oper), l[i]? = some o → ∃ acc', (∀ k, k < acc.length + i → acc'[k]? = (masksOf l acc)[k]?) ∧ acc'.length = acc.length + i ∧ (masksOf l acc)[acc.length + i]? = some (maskEs acc' o.after.toList)
  | [], acc => ⟨fun _ _ => rfl, by simp⟩
  | o :: r, acc => by
    obtain ⟨h1, h2⟩ := masksOf_get r (acc ++ [maskEs acc o.after.toList])
    simp only [masksOf]
    refine ⟨fun i hi => ?_, fun i o' ho => ?_⟩
    · rw [h1 i (by simp; omega), List.getElem?_append_left hi]
    · cases i with
      | zero =>
        simp at ho
        subst ho
        refine ⟨acc, fun k hk => ?_, by simp, ?_⟩
        · rw [h1 k (by simp; omega), List.getElem?_append_left (by omega)]
        · rw [h1 _ (by simp)]
          simp
      | succ i =>
        obtain ⟨acc', k1, k2, k3⟩ := h2 i o' (by simpa using ho)
        simp only [List.length_append, List.length_cons, List.length_nil] at k1 k2 k3
        exact ⟨acc', fun k hk => k1 k (by omega), by omega, by rw [show acc.length + (i + 1) = acc.length + (0 + 1) + i by omega]; exact k3⟩

theorem mask_done {l : List Oper} {D : Nat → Prop} (hback : ∀ (i : Nat) (o : Oper), l[i]? = some o → ∀ e ∈ o.after, Region.binds .any e = true → e.on < i)
    (hcl : ∀ (i : Nat) (o : Oper), l[i]? = some o → D i → ∀ e ∈ o.after, Region.binds .any e = true → D e.on) :
    ∀ (i : Nat) (o : Oper), l[i]? = some o → (∀ e ∈ o.after, Region.binds .any e = true → D e.on) → ∀ j, ((masksOf l []).getD i 0).testBit j = true → D j := by
  intro i
  induction i using Nat.strongRecOn with
  | _ i ih =>
    intro o ho hd j hj
    obtain ⟨acc', k1, k2, k3⟩ := (masksOf_get l []).2 i o ho
    simp only [List.length_nil, Nat.zero_add] at k1 k2 k3
    rw [List.getD_eq_getElem?_getD, k3] at hj
    simp only [Option.getD_some] at hj
    obtain ⟨e, he, hb, hon⟩ := maskEs_bit hj
    have he' : e ∈ o.after := by simpa using he
    have hde := hd e he' hb
    rcases hon with rfl | hon
    · exact hde
    · have hlt := hback i o ho e he' hb
      have hli : i < l.length := by
        rcases Nat.lt_or_ge i l.length with h' | h'
        · exact h'
        · rw [List.getElem?_eq_none h'] at ho; cases ho
      have ho2 : l[e.on]? = some (l[e.on]'(by omega)) := List.getElem?_eq_getElem (by omega)
      refine ih e.on hlt _ ho2 (fun e2 h2 hb2 => hcl e.on _ ho2 hde e2 h2 hb2) j ?_
      rw [List.getD_eq_getElem?_getD, k1 e.on hlt, ← List.getD_eq_getElem?_getD] at hon
      exact hon


section
variable {P : Program} {C : Ctx} {w0 : World} {M0 : Mem} {own0 : Z}

def effO (C : Ctx) (ops : Array Oper) (i : Nat) : Bool := match ops[i]? with
  | some o => (kindOf C o.op).eff
  | none => false
def cntE (C : Ctx) (ops : Array Oper) : List Nat → Nat
  | [] => 0
  | i :: r => (bif effO C ops i then 1 else 0) + cntE C ops r

def RanD (C : Ctx) (ops : Array Oper) (o : Oper) (φ : Nat → V) (u : V) (H H' : Heap) : Prop :=
  (∃ fr', (∀ t, Fr.get fr' t = φ t) ∧ (∀ K : V → Heap → Prop, K u H' → evalOpD C o (Fr.eval fr') H K) ∧
    ((kindOf C o.op).eff = false → H' = H ∧ (∀ (X : Heap) (K : V → Heap → Prop), K u (H ++ X) → evalOpD C o (Fr.eval fr') (H ++ X) K) ∧
      (kindOf C o.op = .blind → ∀ (H2 : Heap) (K : V → Heap → Prop), K u H2 → evalOpD C o (Fr.eval fr') H2 K)) ∧
    (kindOf C o.op = .alloc → ∃ X, H' = H ++ X) ∧
    (o.guard = none ∨ ∃ j want d, o.guard = some (j, want) ∧ (ops[j]?).bind (·.dst) = some d ∧ φ d = .bool want)) ∨
  (u = .tuple [] ∧ H' = H ∧ ∃ j want d, o.guard = some (j, want) ∧ (ops[j]?).bind (·.dst) = some d ∧ (φ d = .bool (!want) ∨ φ d = .tuple []))

theorem ranD_step (hc : CallAng C) {ops : Array Oper} {o : Oper} {l : List Oper} {fr : Fr} {H : Heap} {K : Fr → Heap → Prop} (h : evalOpsD C ops (o :: l) fr H K) :
    ∃ u H1 fr1, RanD C ops o fr.get u H H1 ∧ (∀ t, Fr.get fr1 t = match o.dst with | some d => bif Nat.beq d t then u else fr.get t | none => fr.get t) ∧ (∀ d, o.dst = some d → d < C.ntmps) ∧ evalOpsD C ops l fr1 H1 K := by
  have fin : ∀ (fr0 : Fr) (u : V) (H1 : Heap), (∀ t, fr0.get t = fr.get t) → RanD C ops o fr.get u H H1 → put C fr0 o.dst u (fun fr' => evalOpsD C ops l fr' H1 K) →
      ∃ u H1 fr1, RanD C ops o fr.get u H H1 ∧ (∀ t, Fr.get fr1 t = match o.dst with | some d => bif Nat.beq d t then u else fr.get t | none => fr.get t) ∧ (∀ d, o.dst = some d → d < C.ntmps) ∧ evalOpsD C ops l fr1 H1 K := by
    intro fr0 u H1 hfr hr hp
    cases hd : o.dst with
    | none =>
      rw [hd] at hp
      exact ⟨u, H1, fr0, hr, hfr, (fun d e => by cases e), hp⟩
    | some d =>
      rw [hd] at hp
      simp only [put] at hp
      cases hb : Nat.blt d C.ntmps with
      | false => simp only [hb, cond_false] at hp
      | true =>
        simp only [hb, cond_true] at hp
        refine ⟨u, H1, _, hr, fun t => ?_, (fun d' e => by cases e; rw [Nat.blt_eq] at hb; exact hb), hp⟩
        simp only [Fr.get, hfr]
  have exec : ∀ (fr0 : Fr), (∀ t, fr0.get t = fr.get t) → (o.guard = none ∨ ∃ j want d, o.guard = some (j, want) ∧ (ops[j]?).bind (·.dst) = some d ∧ fr.get d = .bool want) →
      evalOpD C o (Fr.eval fr0) H (fun v H' => put C fr0 o.dst v fun fr' => evalOpsD C ops l fr' H' K) →
      ∃ u H1 fr1, RanD C ops o fr.get u H H1 ∧ (∀ t, Fr.get fr1 t = match o.dst with | some d => bif Nat.beq d t then u else fr.get t | none => fr.get t) ∧ (∀ d, o.dst = some d → d < C.ntmps) ∧ evalOpsD C ops l fr1 H1 K := by
    intro fr0 hfr hgd he
    cases hk : (kindOf C o.op).eff with
    | false =>
      obtain ⟨v, h1, h2, h3⟩ := quiet_D hc o _ (fun _ => rfl) H _ hk he
      have h2' : ∀ K : V → Heap → Prop, K v H → evalOpD C o (Fr.eval fr0) H K := by
        intro K' h'
        have := h2 [] K' (by rw [List.append_nil]; exact h')
        rwa [List.append_nil] at this
      exact fin fr0 v H hfr (.inl ⟨fr0, hfr, h2', fun _ => ⟨rfl, h2, h3⟩, (fun e => by rw [e] at hk; cases hk), hgd⟩) h1
    | true =>
      obtain ⟨v, H1, h1, h2, h3⟩ := eff_D hc o _ (fun _ => rfl) H _ he
      exact fin fr0 v H1 hfr (.inl ⟨fr0, hfr, h2, (fun e => by rw [e] at hk; cases hk), h3, hgd⟩) h1
  have lit : ∀ {d b}, fr.get d = .bool b → ∀ t, Fr.get ((d, .bool b) :: fr) t = fr.get t := by
    intro d b hdb t
    simp only [Fr.get]
    cases e : Nat.beq d t with
    | true => rw [← beq_true e, hdb]; rfl
    | false => rfl
  simp only [evalOpsD] at h
  split at h
  · rename_i hgd
    exact exec fr (fun _ => rfl) (.inl hgd) h
  · rename_i j want hgd
    split at h
    · exact h.elim
    · rename_i dg hdg
      split at h
      · rename_i b hb
        cases want <;> cases b <;> simp only [cond_true, cond_false] at h
        · exact exec _ (lit hb) (.inr ⟨j, _, dg, hgd, hdg, hb⟩) h
        · exact fin _ _ H (lit hb) (.inr ⟨rfl, rfl, j, _, dg, hgd, hdg, .inl hb⟩) h
        · exact fin _ _ H (lit hb) (.inr ⟨rfl, rfl, j, _, dg, hgd, hdg, .inl hb⟩) h
        · exact exec _ (lit hb) (.inr ⟨j, _, dg, hgd, hdg, hb⟩) h
      · rename_i hb
        exact fin fr _ H (fun _ => rfl) (.inr ⟨rfl, rfl, j, want, dg, hgd, hdg, .inr hb⟩) h
      · exact h.elim

theorem runs_D (hc : CallAng C) {ops : Array Oper} {K : Fr → Heap → Prop} : ∀ (ord : List Nat) (fr : Fr) (H : Heap), ord.Nodup → (∀ i ∈ ord, i < ops.size) → evalOpsD C ops (ord.filterMap fun i => ops[i]?) fr H K →
    ∃ (U : Nat → V) (Ψ : Nat → Nat → V) (Hs : Nat → Heap) (fr' : Fr), Hs 0 = H ∧ K fr' (Hs (cntE C ops ord)) ∧
      (∀ (l1 : List Nat) (i : Nat) (l2 : List Nat) (o : Oper), ord = l1 ++ i :: l2 → ops[i]? = some o →
        RanD C ops o (Ψ i) (U i) (Hs (cntE C ops l1)) (Hs (cntE C ops l1 + (bif effO C ops i then 1 else 0))) ∧ (∀ d, o.dst = some d → d < C.ntmps) ∧
        (∀ t, (∀ j ∈ l1, ∀ o', ops[j]? = some o' → o'.dst ≠ some t) → Ψ i t = fr.get t) ∧
        (∀ (j : Nat) (o' : Oper) (t : Nat), j ∈ l1 → ops[j]? = some o' → o'.dst = some t → (∀ k ∈ ord, k ≠ j → ∀ o'', ops[k]? = some o'' → o''.dst ≠ some t) → Ψ i t = U j)) ∧
      (∀ t, (∀ j ∈ ord, ∀ o', ops[j]? = some o' → o'.dst ≠ some t) → fr'.get t = fr.get t) ∧
      (∀ (j : Nat) (o' : Oper) (t : Nat), j ∈ ord → ops[j]? = some o' → o'.dst = some t → (∀ k ∈ ord, k ≠ j → ∀ o'', ops[k]? = some o'' → o''.dst ≠ some t) → fr'.get t = U j) := by
  intro ord
  induction ord with
  | nil => intro fr H _ _ h; exact ⟨fun _ => .undef, fun _ _ => .undef, fun _ => H, fr, rfl, h, by intro l1 i l2 o e; simp at e, fun _ _ => rfl, by simp⟩
  | cons i r ih =>
    intro fr H hnd hlt h
    have hi : i < ops.size := hlt i (by simp)
    have hoi : ops[i]? = some ops[i] := Array.getElem?_eq_getElem hi
    simp only [List.filterMap_cons, hoi] at h
    obtain ⟨u, H1, fr1, h1, h2, h3, h4⟩ := ranD_step hc h
    rw [List.nodup_cons] at hnd
    obtain ⟨U, Ψ, Hs, fr', k1, k2, k3, k4, k5⟩ := ih fr1 H1 hnd.2 (fun j hj => hlt j (by simp [hj])) h4
    have hne : ∀ j ∈ r, j ≠ i := fun j hj e => hnd.1 (e ▸ hj)
    have hquiet : effO C ops i = false → H1 = H := by
      intro he
      simp only [effO, hoi] at he
      rcases h1 with ⟨_, _, _, q, _⟩ | ⟨_, e, _⟩
      · exact (q he).1
      · exact e
    let Hs' : Nat → Heap := bif effO C ops i then (fun m => match m with | 0 => H | m + 1 => Hs m) else Hs
    have hHs0 : Hs' 0 = H := by
      simp only [Hs']
      cases he : effO C ops i with
      | true => rfl
      | false => simp only [cond_false]; rw [k1]; exact hquiet he
    have hHsS : ∀ m, Hs' ((bif effO C ops i then 1 else 0) + m) = Hs m := by
      intro m
      simp only [Hs']
      cases he : effO C ops i with
      | true => simp only [cond_true]; rw [Nat.add_comm]
      | false => simp only [cond_false]; rw [Nat.zero_add]
    have hcnt : ∀ l, cntE C ops (i :: l) = (bif effO C ops i then 1 else 0) + cntE C ops l := fun _ => rfl
    refine ⟨fun k => if k = i then u else U k, fun k => if k = i then fr.get else Ψ k, Hs', fr', hHs0, ?_, ?_, ?_, ?_⟩
    · rw [hcnt, hHsS]; exact k2
    · intro l1 k l2 o he ho
      cases l1 with
      | nil =>
        simp only [List.nil_append, List.cons.injEq] at he
        obtain ⟨rfl, rfl⟩ := he
        rw [hoi] at ho; cases ho
        have e0 : cntE C ops [] = 0 := rfl
        have e1 : Hs' (0 + (bif effO C ops i then 1 else 0)) = H1 := by
          have := hHsS 0
          rw [Nat.add_zero] at this
          rw [Nat.zero_add, this, k1]
        rw [e0, e1, hHs0]
        simp only [↓reduceIte]
        exact ⟨h1, h3, fun _ _ => trivial, fun j _ _ hj => by cases hj⟩
      | cons j0 l1 =>
        simp only [List.cons_append, List.cons.injEq] at he
        obtain ⟨rfl, rfl⟩ := he
        have hkr : k ∈ l1 ++ k :: l2 := by simp
        have hki := hne k hkr
        obtain ⟨q1, q2, q3, q4⟩ := k3 l1 k l2 o rfl ho
        simp only [if_neg hki]
        rw [hcnt, Nat.add_assoc, hHsS, hHsS]
        refine ⟨q1, q2, fun t ht => ?_, fun j o' t hj hoj hdj hu => ?_⟩
        · rw [q3 t fun j hj => ht j (by simp [hj]), h2 t]
          cases hd : (ops[i]).dst with
          | none => rfl
          | some d =>
            have hdt : d ≠ t := fun e => ht i (by simp) _ hoi (by rw [hd, e])
            show (bif Nat.beq d t then u else fr.get t) = fr.get t
            cases e : Nat.beq d t with
            | true => exact absurd (beq_true e) hdt
            | false => rfl
        · rcases List.mem_cons.1 hj with rfl | hj'
          · rw [if_pos rfl]
            rw [hoi] at hoj; cases hoj
            rw [q3 t fun k' hk' o'' ho'' => hu k' (by simp [hk']) (hne k' (by simp [hk'])) o'' ho'', h2 t, hdj]
            simp
          · have hji := hne j (by simp [hj'])
            rw [if_neg hji]
            exact q4 j o' t hj' hoj hdj fun k' hk' hn => hu k' (List.mem_cons_of_mem _ hk') hn
    · intro t ht
      rw [k4 t fun j hj => ht j (by simp [hj]), h2 t]
      cases hd : (ops[i]).dst with
      | none => rfl
      | some d =>
        have hdt : d ≠ t := fun e => ht i (by simp) _ hoi (by rw [hd, e])
        show (bif Nat.beq d t then u else fr.get t) = fr.get t
        cases e : Nat.beq d t with
        | true => exact absurd (beq_true e) hdt
        | false => rfl
    · intro j o' t hj hoj hdj hu
      rcases List.mem_cons.1 hj with rfl | hj'
      · simp only [↓reduceIte]
        rw [hoi] at hoj; cases hoj
        rw [k4 t fun k' hk' o'' ho'' => hu k' (by simp [hk']) (hne k' hk') o'' ho'', h2 t, hdj]
        simp
      · have hji := hne j hj'
        simp only [if_neg hji]
        exact k5 j o' t hj' hoj hdj fun k' hk' hn => hu k' (by simp [hk']) hn

theorem range_split {i n : Nat} (h : i < n) : List.range n = List.range i ++ i :: (List.range' (i + 1) (n - i - 1)) := by
  have e : n = i + (1 + (n - i - 1)) := by omega
  rw [List.range_eq_range', List.range_eq_range', e, ← List.range'_append_1, ← List.range'_append_1]
  simp

theorem cntE_append (C : Ctx) (ops : Array Oper) : ∀ (a b : List Nat), cntE C ops (a ++ b) = cntE C ops a + cntE C ops b
  | [], b => by simp [cntE]
  | x :: a, b => by simp only [List.cons_append, cntE, cntE_append C ops a b]; omega
theorem cntE_none (C : Ctx) (ops : Array Oper) : ∀ l : List Nat, (∀ j ∈ l, effO C ops j = false) → cntE C ops l = 0
  | [], _ => rfl
  | x :: l, h => by simp only [cntE, cntE_none C ops l fun j hj => h j (by simp [hj]), h x (by simp), cond_false]
theorem cntE_range_lt (C : Ctx) (ops : Array Oper) {i j : Nat} (h : i < j) (he : effO C ops i = true) : cntE C ops (List.range i) < cntE C ops (List.range j) := by
  rw [range_split h, cntE_append]
  simp only [cntE, he, cond_true]
  omega

theorem drawOrd_pos {ops : Array Oper} {head : List Oper} {ms : List Nat} (hE : ∀ j, j < head.length → effAt C head j = effO C ops j) {i : Nat} (hi : i < head.length) :
    ∃ l1 l2, drawOrd C head ms = l1 ++ i :: l2 ∧
      (early C head ms i = true → cntE C ops l1 = 0 ∧ (∀ j, j ∈ l1 ↔ (early C head ms j = true ∧ j < i))) ∧
      (early C head ms i = false → cntE C ops l1 = cntE C ops (List.range i) ∧ (∀ j, j ∈ l1 ↔ ((early C head ms j = true ∧ j < head.length) ∨ (early C head ms j = false ∧ j < i)))) := by
  have hne : ∀ j, j < head.length → early C head ms j = true → effO C ops j = false := by
    intro j hj h
    simp only [early, Bool.and_eq_true, Bool.not_eq_true'] at h
    rw [← hE j hj]; exact h.1
  unfold drawOrd
  cases he : early C head ms i with
  | true =>
    refine ⟨(List.range i).filter (early C head ms), (List.range' (i + 1) (head.length - i - 1)).filter (early C head ms) ++ (List.range head.length).filter fun i => !early C head ms i, ?_, fun _ => ⟨?_, fun j => ?_⟩, fun e => by cases e⟩
    · conv => lhs; arg 1; rw [range_split hi, List.filter_append, List.filter_cons, if_pos he]
      simp
    · exact cntE_none C ops _ fun j hj => by
        simp only [List.mem_filter, List.mem_range] at hj
        exact hne j (by omega) hj.2
    · simp only [List.mem_filter, List.mem_range]
      exact ⟨fun h => ⟨h.2, h.1⟩, fun h => ⟨h.2, h.1⟩⟩
  | false =>
    refine ⟨(List.range head.length).filter (early C head ms) ++ (List.range i).filter (fun i => !early C head ms i), (List.range' (i + 1) (head.length - i - 1)).filter fun i => !early C head ms i, ?_, (fun e => by cases e), fun _ => ⟨?_, fun j => ?_⟩⟩
    · conv => lhs; arg 2; rw [range_split hi, List.filter_append, List.filter_cons, if_pos (by rw [he]; rfl)]
      simp
    · rw [cntE_append, cntE_none C ops ((List.range head.length).filter (early C head ms)) fun j hj => by
        simp only [List.mem_filter, List.mem_range] at hj
        exact hne j hj.1 hj.2, Nat.zero_add]
      have : ∀ l : List Nat, (∀ j ∈ l, j < head.length) → cntE C ops (l.filter fun i => !early C head ms i) = cntE C ops l := by
        intro l
        induction l with
        | nil => intro _; rfl
        | cons x l ih =>
          intro hl
          rw [List.filter_cons]
          cases hp : early C head ms x with
          | false => simp only [Bool.not_false, if_true, cntE, ih fun j hj => hl j (by simp [hj])]
          | true =>
            simp only [Bool.not_true, Bool.false_eq_true, if_false, cntE, ih fun j hj => hl j (by simp [hj]), hne x (hl x (by simp)) hp, cond_false]
            omega
      exact this _ fun j hj => by simp only [List.mem_range] at hj; omega
    · simp only [List.mem_append, List.mem_filter, List.mem_range, Bool.not_eq_true']
      constructor
      · rintro (h | h)
        · exact .inl ⟨h.2, h.1⟩
        · exact .inr ⟨h.2, h.1⟩
      · rintro (h | h)
        · exact .inl ⟨h.2, h.1⟩
        · exact .inr ⟨h.2, h.1⟩

theorem drawOrd_cnt {ops : Array Oper} {head : List Oper} {ms : List Nat} (hE : ∀ j, j < head.length → effAt C head j = effO C ops j) : cntE C ops (drawOrd C head ms) = cntE C ops (List.range head.length) := by
  have hne : ∀ j, j < head.length → early C head ms j = true → effO C ops j = false := by
    intro j hj h
    simp only [early, Bool.and_eq_true, Bool.not_eq_true'] at h
    rw [← hE j hj]; exact h.1
  unfold drawOrd
  rw [cntE_append, cntE_none C ops ((List.range head.length).filter (early C head ms)) fun j hj => by
        simp only [List.mem_filter, List.mem_range] at hj
        exact hne j hj.1 hj.2, Nat.zero_add]
  have : ∀ l : List Nat, (∀ j ∈ l, j < head.length) → cntE C ops (l.filter fun i => !early C head ms i) = cntE C ops l := by
    intro l
    induction l with
    | nil => intro _; rfl
    | cons x l ih =>
      intro hl
      rw [List.filter_cons]
      cases hp : early C head ms x with
      | false => simp only [Bool.not_false, if_true, cntE, ih fun j hj => hl j (by simp [hj])]
      | true =>
        simp only [Bool.not_true, Bool.false_eq_true, if_false, cntE, ih fun j hj => hl j (by simp [hj]), hne x (hl x (by simp)) hp, cond_false]
        omega
  exact this _ fun j hj => by simpa using hj

theorem cnt_hit {ops : Array Oper} {m : Nat} : ∀ n, m < cntE C ops (List.range n) → ∃ j, j < n ∧ effO C ops j = true ∧ cntE C ops (List.range j) = m
  | 0, h => by simp [cntE] at h
  | n + 1, h => by
    rw [List.range_succ, cntE_append] at h
    simp only [cntE] at h
    by_cases h' : m < cntE C ops (List.range n)
    · obtain ⟨j, h1, h2⟩ := cnt_hit n h'
      exact ⟨j, by omega, h2⟩
    · cases he : effO C ops n with
      | false => simp only [he, cond_false] at h; omega
      | true => simp only [he, cond_true] at h; exact ⟨n, by omega, he, by omega⟩

theorem maskEs_of {acc : List Nat} : ∀ {es : List Edge} {e : Edge}, e ∈ es → Region.binds .any e = true → (maskEs acc es).testBit e.on = true ∧ ∀ k, (acc.getD e.on 0).testBit k = true → (maskEs acc es).testBit k = true
  | x :: r, e, h, hb => by
    rcases List.mem_cons.1 h with rfl | h
    · simp only [maskEs, hb, cond_true, Nat.testBit_or, Bool.or_eq_true]
      refine ⟨.inl (.inr ?_), fun k hk => .inl (.inl hk)⟩
      rw [Nat.one_shiftLeft, Nat.testBit_two_pow]
      simp
    · obtain ⟨h1, h2⟩ := maskEs_of (acc := acc) h hb
      simp only [maskEs]
      cases Region.binds .any x with
      | false => exact ⟨h1, h2⟩
      | true => simp only [cond_true, Nat.testBit_or, Bool.or_eq_true]; exact ⟨.inr h1, fun k hk => .inr (h2 k hk)⟩

theorem mask_has {l : List Oper} {i : Nat} {o : Oper} {e : Edge} (ho : l[i]? = some o) (he : e ∈ o.after) (hb : Region.binds .any e = true) (hlt : e.on < i) :
    ((masksOf l []).getD i 0).testBit e.on = true ∧ ∀ k, ((masksOf l []).getD e.on 0).testBit k = true → ((masksOf l []).getD i 0).testBit k = true := by
  obtain ⟨acc', k1, k2, k3⟩ := (masksOf_get l []).2 i o ho
  simp only [List.length_nil, Nat.zero_add] at k1 k2 k3
  obtain ⟨h1, h2⟩ := maskEs_of (acc := acc') (es := o.after.toList) (by simpa using he) hb
  rw [List.getD_eq_getElem?_getD, k3]
  refine ⟨h1, fun k hk => h2 k ?_⟩
  rw [List.getD_eq_getElem?_getD, k1 e.on hlt, ← List.getD_eq_getElem?_getD]
  exact hk

theorem getD_get {l : Array Bool} {i : Nat} (h : i < l.size) (d d' : Bool) : l.getD i d = l.getD i d' := by simp [Array.getD, h]

theorem ownArg_stay (hc : CallsOk0 P C) {o : Oper} {a : Option Operand} (h : ownArg C o = some a) {ρ : Operand → V} (hρ : ∀ f, ρ (.func f) = .fn f []) {av : V} (ha : ∀ x, a = some x → ρ x = av) {H H' : Heap} {u : V} (hev : ∀ K : V → Heap → Prop, K u H' → evalOpD C o ρ H K) : StayOf av H H' := by
  obtain ⟨dst, op, type, pos, after, guard⟩ := o
  have he := hev (fun v h => v = u ∧ h = H') ⟨rfl, rfl⟩
  unfold ownArg at h
  simp only at h
  split at h
  · rename_i f args argTypes
    split at h
    · rename_i hp
      split at h
      · rename_i a0 ha0
        cases h
        have hl : ∃ r, args.toList = a0 :: r := by
          cases hl : args.toList with
          | nil => rw [← Array.getElem?_toList, hl] at ha0; simp at ha0
          | cons x r =>
            rw [← Array.getElem?_toList, hl] at ha0
            simp at ha0
            exact ⟨r, by rw [ha0]⟩
        obtain ⟨r, hl⟩ := hl
        simp only [evalOpD, evalOp, hρ, hl, List.map_cons, ha _ rfl, List.cons_append] at he
        have h2 := callV_local hc.loc hp hc.ang he
        obtain ⟨v, H1, h3, _⟩ := callV_ang hc.ang _ _ _ _ h2
        obtain ⟨⟨_, rfl⟩, h4⟩ := h3
        exact h4
      · cases h
    · cases h
  · rename_i args argTypes
    simp only [evalOpD, evalOp] at he
    split at he
    · split at he
      · rename_i t u' _
        cases hb : Nat.beq t u' with
        | true => simp only [hb, cond_true] at he; exact .of (appendV_stay he)
        | false => simp only [hb, cond_false] at he; exact .of (appendZ_stay he)
      · exact he.elim
    · exact he.elim
  · rename_i t len parts
    simp only [evalOpD, evalOp] at he
    cases hz : frz1 C H (parts.toList.map fun p => (p.1, ρ p.2)) with
    | none => rw [hz] at he; exact .of (buildSliceV_stay he)
    | some q =>
      obtain ⟨H1, qs⟩ := q
      rw [hz] at he
      obtain ⟨_, i, vs, vs', _, _, e3⟩ := frz1_is hz
      exact .of fun id => (freezes1_boxes e3 id).trans (buildSliceV_stay he id)
  · cases h
theorem loadOf_eq {o : Oper} {x : Operand} (h : loadOf o = some x) : ∃ t, o.op = .load t x := by
  unfold loadOf at h
  split at h
  · rename_i t y e; cases h; exact ⟨t, e⟩
  · cases h

theorem touchOf_mem {o : Oper} {a : Bool × List Operand} (h : touchOf C o = some a) {x : Operand} (hx : x ∈ a.2) : x ∈ o.op.operands := by
  obtain ⟨dst, op, type, pos, after, guard⟩ := o
  unfold touchOf at h
  simp only at h
  split at h
  · rename_i f args argTypes
    split at h
    · cases hes : C.es f with
      | false => rw [hes] at h; cases h
      | true =>
        rw [hes] at h
        simp only [cond_true] at h
        cases h
        simp only [Op.operands, Call.operands]
        simp only at hx
        simpa using Or.inr hx
    · cases h
  · rename_i t y lo hi mx
    cases h
    simp only [List.mem_singleton] at hx
    subst hx
    simp [Op.operands]
  · rename_i t y v
    cases h
    simp only [List.mem_singleton] at hx
    subst hx
    simp [Op.operands]
  · cases h
theorem readOf_mem {o : Oper} {x : Operand} (h : readOf o = some x) : x ∈ o.op.operands := by
  obtain ⟨dst, op, type, pos, after, guard⟩ := o
  unfold readOf at h
  simp only at h
  split at h
  · cases h; simp [Op.operands]
  · cases h; simp [Op.operands]
  · rename_i args tys
    have := List.mem_of_getElem? (show args.toList[0]? = some x by rw [Array.getElem?_toList]; exact h)
    simp only [Op.operands, Call.operands]
    simpa using this
  · cases h
theorem of_bif {b : Bool} {p : Prop} (h : bif b then p else False) : p := by cases b with | true => exact h | false => exact h.elim
theorem cond_mono {b : Bool} {p q : Prop} (h : bif b then p else False) (hpq : p → q) : bif b then q else False := by cases b with | true => exact hpq h | false => exact h
theorem loadV_mono {t : TypeId} {v : V} {H : Heap} {K K' : V → Prop} (h : loadV C t v H K) (hK : ∀ v, K v → K' v) : loadV C t v H K' := by
  obtain ⟨u, h1, h2⟩ := loadV_ang t v H K h
  exact h2 K' (hK u h1)
theorem indexAddrV_mono {t : TypeId} {v ix : V} {H : Heap} {K K' : V → Prop} (h : indexAddrV C t v ix H K) (hK : ∀ v, K v → K' v) : indexAddrV C t v ix H K' := by
  obtain ⟨u, h1, h2⟩ := indexAddrV_ang t v ix H K h
  exact h2 K' (hK u h1)
theorem lenV_mono {v : V} {H : Heap} {K K' : V → Prop} (h : lenV v H K) (hK : ∀ v, K v → K' v) : lenV v H K' := by
  obtain ⟨u, h1, h2⟩ := lenV_ang v H K h
  exact h2 K' (hK u h1)
theorem sliceV_stayE {t : TypeId} {v : V} {lo hi : Option V} {H H' : Heap} {u : V} {tt : Option Nat} (ht : touchL true [v] = some tt) (h : sliceV C t v lo hi H (fun w h => w = u ∧ h = H')) : StayE tt H H' := by
  have hv : (∃ id ver, v = .obj id ver ∧ tt = some id) ∨ (immut v = true ∧ tt = none) := by
    unfold touchL at ht
    simp only [immuts, cond_true] at ht
    cases hi : immut v with
    | true =>
      refine .inr ⟨rfl, ?_⟩
      cases v <;> first | (simp [immut] at hi; done) | (simp only [hi, cond_true] at ht; cases ht; rfl)
    | false =>
      cases v <;> first | (simp only [hi, cond_false] at ht; cases ht; done) | (cases ht; done) | (cases ht; exact .inl ⟨_, _, rfl, rfl⟩)
  unfold sliceV at h
  split at h
  · exact h.elim
  · split at h
    · split at h
      · split at h
        · have := of_cond h
          rw [← this.2]; exact .refl _ _
        · exact h.elim
      · exact h.elim
    · split at h
      · rename_i id off
        rcases hv with ⟨_, _, e, _⟩ | ⟨e, _⟩
        · cases e
        · simp [immut] at e
      · exact h.elim
    · cases hb : (Nat.beq (C.ti _).size (C.ti t).ty.size && !Nat.beq (C.ti _).size 0) with
      | false => rw [hb] at h; simp only [cond_false] at h
      | true =>
        rw [hb] at h
        simp only [cond_true] at h
        split at h
        · split at h
          · split at h
            · have := of_cond h
              rw [← this.2]; exact .refl _ _
            · exact h.elim
          · exact h.elim
        · split at h
          · have := of_cond h
            rw [← this.2]; exact .refl _ _
          · exact h.elim
        · rename_i id ver
          have htt : tt = some id := by
            rcases hv with ⟨_, _, e, e2⟩ | ⟨e, _⟩
            · cases e; exact e2
            · simp [immut] at e
          subst htt
          split at h
          · split at h
            · have h := of_cond h
              split at h
              · generalize (C.mv && (Nat.beq _ 0 && Nat.ble C.base id)) = b at h
                cases b with
                | true =>
                  have := of_cond h
                  rw [← this.2]; exact .set _ _ _
                | false =>
                  have := of_cond h
                  rw [← this.2]; exact .set _ _ _
              · exact h.elim
            · exact h.elim
          · split at h
            · have h := of_cond h
              split at h
              · have := of_cond h
                rw [← this.2]; exact .refl _ _
              · exact h.elim
            · exact h.elim
          · exact h.elim
        · exact h.elim
    · exact h.elim

theorem storeV_stayE {t : TypeId} {x v : V} {H H' : Heap} {K : Heap → Prop} {tt : Option Nat} (ht : touchL false [x] = some tt) (h : storeV C t x v H K) (hK : ∀ h, K h → h = H') : StayE tt H H' := by
  unfold storeV at h
  split at h
  · exact h.elim
  · rename_i vs hvs
    have h := of_bif h
    split at h
    · rename_i id off
      simp only [touchL, immuts, cond_true, cond_false] at ht
      cases ht
      split at h
      · have h := of_bif h
        rw [← hK _ h]
        exact .set _ _ _
      · exact h.elim
    all_goals
      simp [touchL, immuts, immut] at ht
    all_goals exact h.elim
theorem touch_stay (hc : CallsOk0 P C) {o : Oper} {a : Bool × List Operand} (h : touchOf C o = some a) {ρ : Operand → V} (hρ : ∀ f, ρ (.func f) = .fn f []) {tt : Option Nat} (ht : touchL a.1 (a.2.map ρ) = some tt) {H H' : Heap} {u : V} (hev : ∀ K : V → Heap → Prop, K u H' → evalOpD C o ρ H K) : StayE tt H H' := by
  obtain ⟨dst, op, type, pos, after, guard⟩ := o
  have he := hev (fun v h => v = u ∧ h = H') ⟨rfl, rfl⟩
  unfold touchOf at h
  simp only at h
  split at h
  · rename_i f args argTypes
    split at h
    · rename_i hp
      cases hes : C.es f with
      | false => rw [hes] at h; cases h
      | true =>
        rw [hes] at h
        simp only [cond_true] at h
        cases h
        simp only at ht
        cases hl : args.toList with
        | nil => rw [hl] at ht; cases ht
        | cons a0 r =>
          rw [hl, List.map_cons] at ht
          simp only [evalOpD, evalOp, hρ, hl, List.map_cons, List.append_nil] at he
          have h2 := callV_localE hc.2.2.1 hp hes ht he
          obtain ⟨v, H1, h3, _⟩ := callV_ang hc.ang _ _ _ _ h2
          obtain ⟨⟨_, rfl⟩, h4⟩ := h3
          exact h4
    · cases h
  · rename_i t x lo hi mx
    cases h
    simp only [List.map_cons, List.map_nil] at ht
    simp only [evalOpD] at he
    have he := of_bif he
    cases mx with
    | none => simp only [evalOp] at he; exact sliceV_stayE ht he
    | some _ => simp only [evalOp] at he
  · rename_i t x v
    cases h
    simp only [List.map_cons, List.map_nil] at ht
    simp only [evalOpD, evalOp] at he
    exact storeV_stayE ht he fun h hh => hh.2
  · cases h

theorem read_stay {o : Oper} {x : Operand} (hr : readOf o = some x) (hvw : C.vw = true) {ρ : Operand → V} {tt : Option Nat} (ha : apartB tt (idOf (ρ x)) = true) {H H' : Heap} (hs : StayE tt H H') {u : V} (h : evalOpD C o ρ H (fun v h => v = u ∧ h = H)) : evalOpD C o ρ H' (fun v h => v = u ∧ h = H') := by
  have hk : ∀ id, idOf (ρ x) = some id → ∀ o, H[id]? = some o → H'[id]? = some o := fun id e o ho => hs id (fun e2 => by
    rw [e2, e] at ha
    simp only [apartB, Bool.not_eq_true'] at ha
    have : Nat.beq id id = true := by simp
    rw [this] at ha; cases ha) o ho
  obtain ⟨dst, op, type, pos, after, guard⟩ := o
  unfold readOf at hr
  simp only at hr
  split at hr
  · rename_i t y
    cases hr
    simp only [evalOpD, evalOp] at h ⊢
    refine loadV_mono (loadV_keep hk h) fun v hv => ⟨hv.1, by first | trivial | rfl⟩
  · rename_i t y ix
    cases hr
    simp only [evalOpD, evalOp] at h ⊢
    refine indexAddrV_mono (indexAddrV_keep hk h) fun v hv => ⟨hv.1, by first | trivial | rfl⟩
  · rename_i args tys
    simp only [evalOpD] at h ⊢
    have hm : C.mvl = false := by unfold Ctx.mvl; rw [hvw]; simp
    simp only [hm, Bool.not_false, Bool.true_or, cond_true, evalOp] at h ⊢
    split at h
    · rename_i z hz
      have : z = x := by
        rw [← Array.getElem?_toList, hz] at hr
        simpa using hr
      subst this
      split at h
      · split at h
        · exact lenV_mono (lenV_keep hk h) fun v hv => ⟨hv.1, by first | trivial | rfl⟩
        · split at h
          · exact ⟨h.1, by first | trivial | rfl⟩
          · exact h.elim
        · rename_i n _ _
          exact cond_mono h fun hv => ⟨hv.1, by first | trivial | rfl⟩
        · exact h.elim
      · exact h.elim
    · exact h.elim
  · cases hr


theorem vcall_stay (hc : CallAng C) {o : Oper} {as : List Operand} (h : vcallOf C o = some as) {ρ : Operand → V} (hρ : ∀ f, ρ (.func f) = .fn f []) (hi : immuts (as.map ρ) = true) {H H' : Heap} {u : V} (he : evalOpD C o ρ H (fun v h => v = u ∧ h = H)) : evalOpD C o ρ H' (fun v h => v = u ∧ h = H') := by
  obtain ⟨dst, op, type, pos, after, guard⟩ := o
  unfold vcallOf at h
  simp only at h
  split at h
  · rename_i f args argTypes
    split at h
    · rename_i hp
      cases h
      have hcf := hc f
      simp only [hp] at hcf
      simp only [evalOpD, evalOp, hρ, List.append_nil] at he ⊢
      unfold callV at he ⊢
      simp only [hp, hi, cond_true] at he ⊢
      obtain ⟨v, h1, h2⟩ := hcf _ _ he
      exact h2 _ ⟨h1.1, by first | trivial | rfl⟩
    · cases h
  · cases h
theorem vcallOf_mem {o : Oper} {as : List Operand} (h : vcallOf C o = some as) {x : Operand} (hx : x ∈ as) : x ∈ o.op.operands := by
  obtain ⟨dst, op, type, pos, after, guard⟩ := o
  unfold vcallOf at h
  simp only at h
  split at h
  · rename_i f args argTypes
    split at h
    · cases h
      simp only [Op.operands, Call.operands]
      simpa using Or.inr hx
    · cases h
  · cases h
theorem drawOkF_of {ops : List Oper} {ms : List Nat} {n : Nat} (h : drawOk C ops ms n = true) : drawOkF C ops ms n = true := by
  unfold drawOk at h
  unfold drawOkF
  simp only [Bool.and_eq_true, List.all_eq_true] at h ⊢
  refine ⟨h.1, fun p hp => ⟨(h.2 p hp).1, ?_⟩⟩
  have := (h.2 p hp).2
  revert this
  cases Nat.blt p.2 n with
  | false => exact id
  | true =>
    simp only [cond_true, Bool.or_eq_true]
    exact .inr
end
end Go.Ev

/- Drawn regions with an allocation that waits for nothing. -/
set_option linter.unusedVariables false
set_option linter.unusedSimpArgs false
namespace Go.Ev
theorem HR.adopt1 {H : Heap} {g : List G} {M : Mem} {w : World} (h : HR H g M w) {b : Nat} {cells : List V} {c : Array Value} {T : TypeId} {fz : Nat × Nat}
    (hc : w.heap[b]? = some (.cells c T fz)) (hv : VRs (g ++ [.box b]) M cells c.toList) (hcl : Clear c.size fz) (hM : M b = none) (hn : ¬ Own H g b) : HR (H ++ [.box cells]) (g ++ [.box b]) M w := by
  have hlen := h.len
  have hown : ∀ {j : Nat} {o : Ob} {x : G}, H[j]? = some o → g[j]? = some x → ¬ ownB o x b := fun p1 p2 p3 => hn ⟨_, _, _, p1, p2, p3⟩
  refine ⟨by simp [hlen], ?_, ?_, h.mem⟩
  · intro id o' x' h1 h2
    rw [getElem?_snoc] at h1 h2
    rw [← hlen] at h2
    split at h1
    · rename_i hid
      rw [if_pos hid] at h2
      exact (h.ob id o' x' h1 h2).mono (Ext.snoc g M _) fun _ _ => rfl
    · rename_i hid
      rw [if_neg hid] at h2
      split at h1
      · rename_i he
        rw [if_pos he] at h2
        cases h1; cases h2
        simp only [ObOk]
        exact ⟨c, T, fz, hc, hv, hcl, hM⟩
      · cases h1
  · intro id id' o1 o2 x1 x2 b' a1 a2 b1 b2 c1 c2
    rw [getElem?_snoc] at a1 a2 b1 b2
    rw [← hlen] at a2 b2
    by_cases p : id < H.length <;> by_cases q : id' < H.length
    · rw [if_pos p] at a1 a2; rw [if_pos q] at b1 b2
      exact h.apart id id' o1 o2 x1 x2 b' a1 a2 b1 b2 c1 c2
    · rw [if_pos p] at a1 a2; rw [if_neg q] at b1 b2
      split at b1
      · rename_i he; rw [if_pos he] at b2; cases b1; cases b2
        simp only [ownB] at c2
        subst c2
        exact absurd c1 (hown a1 a2)
      · cases b1
    · rw [if_neg p] at a1 a2; rw [if_pos q] at b1 b2
      split at a1
      · rename_i he; rw [if_pos he] at a2; cases a1; cases a2
        simp only [ownB] at c1
        subst c1
        exact absurd c2 (hown b1 b2)
      · cases a1
    · rw [if_neg p] at a1; rw [if_neg q] at b1
      split at a1
      · split at b1
        · omega
        · cases b1
      · cases a1
section
variable {P : Program} {C : Ctx} {w0 : World} {M0 : Mem} {own0 : Z}
theorem draw_float (L : LOk P C) (hc : CallsOk P C M0 own0) (hm : P.follows .mixedOrders = true) {id : Nat} {ops : Array Oper} {n : Nat} (hd : drawOkF C ops.toList (masksOf ops.toList []) n = true) {fr : Fr} {H : Heap} {K : Fr → Heap → Prop} {a : Act} {w : World}
    (h : evalOpsD C ops ((drawOrd C (ops.toList.take n) (masksOf ops.toList [])).filterMap fun i => ops[i]?) fr H fun fr1 H1 => bif farOk C (ops.toList.take n) (masksOf ops.toList []) fr1 then evalOps C ops (ops.toList.drop n) fr1 H1 K else False) (hg : Good C w0 M0 own0 fr H a w) {Q : Exit → Act → World → Prop}
    (hq : ∀ fr' H', K fr' H' → ∀ a' w', Good C w0 M0 own0 fr' H' a' w' → Q .normal a' w') : (Code.region id ops true).wp P Q a w := by
  refine wp_region_any hm ?_
  unfold drawOkF at hd
  simp only [Bool.and_eq_true] at hd
  obtain ⟨hn, hd⟩ := hd
  have hn := Nat.le_of_ble_eq_true hn
  simp only [Array.length_toList] at hn
  have hops : ∀ {i : Nat} {o : Oper}, ops[i]? = some o → ops.toList[i]? = some o := fun h => by simpa using h
  have hops' : ∀ {i : Nat} {o : Oper}, ops.toList[i]? = some o → ops[i]? = some o := fun h => by simpa using h
  have back : ∀ {i : Nat} {o : Oper}, ops[i]? = some o → ∀ e ∈ o.after, Region.binds .any e = true → e.on < i := by
    intro i o ho e he hb
    have := all_zipIdx hd (hops ho)
    simp only [Bool.and_eq_true] at this
    have h1 := this.1
    simp only [backOk, Array.all_eq_true_iff_forall_mem] at h1
    have h2 := h1 e he
    rw [hb] at h2
    simpa [Nat.blt_eq] using h2
  have hhead : ∀ {i : Nat} {o : Oper}, ops[i]? = some o → i < n → ¬ floatOk C ops.toList n i = true → headOk C (ops.toList.take n) (masksOf ops.toList []) o i = true := by
    intro i o ho hi hne
    have := all_zipIdx hd (hops ho)
    simp only [Bool.and_eq_true] at this
    have h1 := this.2
    have hb : Nat.blt i n = true := by rw [Nat.blt_eq]; exact hi
    simp only [Bool.not_eq_true] at hne
    simp only [hb, cond_true, hne, Bool.false_or] at h1
    exact h1
  have hmemt : ∀ {i : Nat} {o : Oper}, ops[i]? = some o → i < n → (ops.toList.take n)[i]? = some o := by
    intro i o ho hi
    rw [List.getElem?_take, if_pos hi]
    exact hops ho
  have hflo : ∀ q, floatOk C ops.toList n q = true → ∃ (oL : Oper) (t : TypeId) (d : Nat), ops[q]? = some oL ∧ oL.op = .alloc t ∧ bldOf C t = none ∧ (C.ti t).size ≠ 0 ∧ oL.guard = none ∧ oL.dst = some d ∧ Nat.blt d C.ntmps = true ∧ q < n ∧
      ∀ (j : Nat) (p : Oper), ops[j]? = some p → j < n → j ≠ q → p.dst ≠ some d ∧ (∀ j' want, p.guard = some (j', want) → j' ≠ q) ∧ ((∀ x ∈ p.op.operands.toList, x ≠ .tmp d) ∨ ((kindOf C p.op).eff = true ∧ q < j)) := by
    intro q hlate
    unfold floatOk at hlate
    split at hlate
    · rename_i o ho
      split at hlate
      · rename_i t ht
        simp only [Bool.and_eq_true] at hlate
        obtain ⟨q1, q2, q3, q5, q4⟩ := hlate
        split at q4
        · rename_i d hd'
          simp only [Bool.and_eq_true] at q4
          refine ⟨o, t, d, by simpa using ho, ht, by simpa using q1, (fun e => by rw [e] at q2; cases q2), by simpa using q3, hd', q4.1, by rw [Nat.blt_eq] at q5; exact q5, fun j p hp hj hne => ?_⟩
          have h1 := all_zipIdx q4.2 (hmemt hp hj)
          have hbq : Nat.beq j q = false := by
            cases e : Nat.beq j q with
            | false => rfl
            | true => exact absurd (beq_true e) hne
          simp only [hbq, Bool.false_or, Bool.and_eq_true, Bool.or_eq_true, List.all_eq_true, Nat.blt_eq] at h1
          obtain ⟨r1, r2, r3⟩ := h1
          refine ⟨fun e => by simp [e] at r1, fun j' want e e2 => ?_, r3.imp (fun r x hx e => ?_) fun r => r⟩
          · rw [e, e2] at r2
            simp at r2
          · have := r x hx
            rw [e] at this
            simp at this
        · cases q4
      · cases hlate
    · cases hlate
  have htail : ∀ {i : Nat} {o : Oper}, ops[i]? = some o → n ≤ i → ∀ j, j < i → ∃ e ∈ o.after, Region.binds .any e = true ∧ e.on = j := by
    intro i o ho hi j hj
    have := all_zipIdx hd (hops ho)
    simp only [Bool.and_eq_true] at this
    have h1 := this.2
    have hb : Nat.blt i n = false := by
      cases e : Nat.blt i n with
      | false => rfl
      | true => rw [Nat.blt_eq] at e; omega
    simp only [hb, cond_false, tailOk, List.all_eq_true] at h1
    exact edgeOn_sound (h1 j (by simpa using hj))
  have hlen : ops.toList.length = ops.size := by simp
  have hhl : (ops.toList.take n).length = n := by rw [List.length_take]; omega
  have htake : ∀ {i : Nat} {o : Oper}, (ops.toList.take n)[i]? = some o → i < n ∧ ops[i]? = some o := by
    intro i o ho
    rw [List.getElem?_take] at ho
    split at ho
    · rename_i hi; exact ⟨hi, by simpa using ho⟩
    · cases ho
  have htake' : ∀ {i : Nat} {o : Oper}, i < n → ops[i]? = some o → (ops.toList.take n)[i]? = some o := by
    intro i o hi ho
    rw [List.getElem?_take, if_pos hi]
    exact hops ho
  have hE : ∀ j, j < (ops.toList.take n).length → effAt C (ops.toList.take n) j = effO C ops j := by
    intro j hj
    rw [hhl] at hj
    have ho : ops[j]? = some ops[j] := Array.getElem?_eq_getElem (by omega)
    simp only [effAt, effO, htake' hj ho, ho]
  have hdist : ∀ {i j : Nat} {o o' : Oper} {d : Nat}, ops[i]? = some o → i < n → ops[j]? = some o' → j < n → o.dst = some d → o'.dst = some d → i = j := by
    intro i j o o' d ho hi ho' hj h1 h2
    by_cases eiq : floatOk C ops.toList n i = true
    · by_cases ejq : j = i
      · omega
      · exfalso
        obtain ⟨oL, tL, dL, hoL, _, _, _, _, hdL, _, _, hused⟩ := hflo i eiq
        rw [hoL] at ho
        cases ho
        rw [hdL] at h1
        cases h1
        exact (hused j o' ho' hj ejq).1 h2
    have := hhead ho hi eiq
    simp only [headOk, Bool.and_eq_true] at this
    have h3 := this.1.1.1
    rw [h1] at h3
    have := all_zipIdx h3 (htake' hj ho')
    simp only [h2, Bool.or_eq_true] at this
    rcases this with k | k
    · exact (beq_true k).symm
    · simp at k
  generalize hms : masksOf ops.toList [] = ms at *
  have hordn : ∀ i, i ∈ drawOrd C (ops.toList.take n) ms ↔ i < n := by
    intro i
    unfold drawOrd
    rw [hhl]
    simp only [List.mem_append, List.mem_filter, List.mem_range, Bool.not_eq_true']
    cases early C (ops.toList.take n) ms i <;> simp
  have hnodup : (drawOrd C (ops.toList.take n) ms).Nodup := by
    unfold drawOrd
    rw [List.nodup_append]
    refine ⟨List.nodup_range.filter _, List.nodup_range.filter _, ?_⟩
    intro x hx y hy e
    subst e
    simp only [List.mem_filter] at hx hy
    rw [hx.2] at hy
    simp at hy
  obtain ⟨U, Ψ, Hs, frn, hHs0, hrest, hat, hend1, hend2⟩ := runs_D hc.ang _ _ _ hnodup (fun i hi => by have := (hordn i).1 hi; omega) h
  rw [drawOrd_cnt hE, hhl] at hrest
  have hfar : farOk C (ops.toList.take n) ms frn = true := by
    cases e : farOk C (ops.toList.take n) ms frn with
    | true => rfl
    | false => simp only [e, cond_false] at hrest
  simp only [hfar, cond_true] at hrest
  -- the number of effects ahead of one
  have hpos : ∀ {i : Nat} {o : Oper}, i < n → ops[i]? = some o → ∃ l1 l2, drawOrd C (ops.toList.take n) ms = l1 ++ i :: l2 ∧
      cntE C ops l1 = (bif early C (ops.toList.take n) ms i then 0 else cntE C ops (List.range i)) ∧
      (∀ j, j < i → (early C (ops.toList.take n) ms i = true → early C (ops.toList.take n) ms j = true) → j ∈ l1) ∧ (∀ j ∈ l1, j < n) := by
    intro i o hi ho
    obtain ⟨l1, l2, p1, p2, p3⟩ := drawOrd_pos (ms := ms) hE (show i < (ops.toList.take n).length by omega)
    refine ⟨l1, l2, p1, ?_, ?_, fun j hj => (hordn j).1 (by rw [p1]; simp [hj])⟩
    · cases he : early C (ops.toList.take n) ms i with
      | true => exact (p2 he).1
      | false => exact (p3 he).1
    · intro j hj hej
      cases he : early C (ops.toList.take n) ms i with
      | true => exact ((p2 he).2 j).2 ⟨hej he, hj⟩
      | false =>
        refine ((p3 he).2 j).2 ?_
        cases he' : early C (ops.toList.take n) ms j with
        | true => exact .inl ⟨rfl, by omega⟩
        | false => exact .inr ⟨rfl, hj⟩
  have heff : ∀ {i : Nat} {o : Oper}, ops[i]? = some o → effO C ops i = (kindOf C o.op).eff := by
    intro i o ho; simp only [effO, ho]
  have hearly : ∀ {i : Nat}, i < n → effO C ops i = true → early C (ops.toList.take n) ms i = false := by
    intro i hi he
    simp only [early, hE i (by omega), he, Bool.not_true, Bool.false_and]
  have hearlyd0 : ∀ {i : Nat} {o : Oper}, i < n → ops[i]? = some o → ∀ e ∈ o.after, Region.binds .any e = true → early C (ops.toList.take n) ms i = true → early C (ops.toList.take n) ms e.on = true := by
    intro i o hin hoi e he hb' hei
    have hlt := back hoi e he hb'
    have hmh := mask_has (hops hoi) he hb' hlt
    rw [hms] at hmh
    simp only [early, Bool.and_eq_true, Bool.not_eq_true', List.all_eq_true, List.mem_range, Bool.and_eq_false_iff] at hei ⊢
    have h1 := hei.2 e.on (by omega)
    refine ⟨?_, fun k hk => ?_⟩
    · rcases h1 with h1 | h1
      · exact h1
      · rw [hmh.1] at h1; cases h1
    · rcases hei.2 k hk with h2 | h2
      · exact .inl h2
      · refine .inr ?_
        cases e2 : (ms.getD e.on 0).testBit k with
        | false => rfl
        | true => rw [hmh.2 k e2] at h2; cases h2
  -- an operand's value at the end is what it was
  have hfin : ∀ {i : Nat} {o : Oper} {l1 l2 : List Nat}, i < n → ops[i]? = some o → drawOrd C (ops.toList.take n) ms = l1 ++ i :: l2 →
      (∀ j, j < i → (early C (ops.toList.take n) ms i = true → early C (ops.toList.take n) ms j = true) → j ∈ l1) → (∀ j ∈ l1, j < n) → ∀ t, Operand.tmp t ∈ o.op.operands → frn.get t = Ψ i t := by
    intro i o l1 l2 hin hoi hsp hin1 hl1n t ht
    by_cases eiq : floatOk C ops.toList n i = true
    · exfalso
      obtain ⟨oL, tL, dL, hoL, hopL, _⟩ := hflo i eiq
      rw [hoL] at hoi
      cases hoi
      rw [hopL] at ht
      simp [Op.operands] at ht
    obtain ⟨_, _, hψ1, hψ2⟩ := hat l1 i l2 o hsp hoi
    by_cases hw : ∀ (j : Nat) (o' : Oper), j < n → ops[j]? = some o' → o'.dst ≠ some t
    · rw [hψ1 t fun j hj o' hoj => hw j o' (hl1n j hj) hoj, hend1 t fun j hj o' hoj => hw j o' ((hordn j).1 hj) hoj]
    · simp only [Classical.not_forall] at hw
      obtain ⟨j, o', hj, hoj, hd'⟩ := hw
      simp only [ne_eq, Classical.not_not] at hd'
      have hho := hhead hoi hin eiq
      simp only [headOk, Bool.and_eq_true] at hho
      have h3 := all_zipIdx hho.1.1.2 (htake' hj hoj)
      simp only [hd', Bool.or_eq_true, Bool.not_eq_true', Bool.and_eq_true] at h3
      rcases h3 with k | ⟨k1, k2⟩
      · rw [List.any_eq_false] at k
        exact absurd (by simp) (k (.tmp t) (by simpa using ht))
      · rw [Nat.blt_eq] at k1
        obtain ⟨e, he1, he2, he3⟩ := edgeOn_sound k2
        have hjl : j ∈ l1 := hin1 j k1 fun hei => by rw [← he3]; exact hearlyd0 hin hoi e he1 he2 hei
        rw [hψ2 j o' t hjl hoj hd' fun k hk hne o'' hok e' => hne (hdist hok ((hordn k).1 hk) hoj hj e' hd'),
          hend2 j o' t ((hordn j).2 hj) hoj hd' fun k hk hne o'' hok e' => hne (hdist hok ((hordn k).1 hk) hoj hj e' hd')]
  -- behind the head the order is told
  have tail : ∀ (f : Nat) (k : Nat) (listed : Array Bool) (fr : Fr) (H : Heap) (a : Act) (w : World), n ≤ k → k + f = ops.size → listed.size = ops.size → (∀ j, j < k → listed.getD j false = true) → (∀ j, k ≤ j → listed.getD j false = false) →
      evalOps C ops (ops.toList.drop k) fr H K → Good C w0 M0 own0 fr H a w → wpAny P .any ops Q f listed a w := by
    intro f
    induction f with
    | zero =>
      intro k listed fr H a w hk hkf hls h1 h2 he hg
      have hall : Region.ready .any ops listed = [] := by
        rw [List.eq_nil_iff_forall_not_mem]
        intro j hj
        rw [mem_ready] at hj
        obtain ⟨p1, o, ho, _⟩ := hj
        have hlt : j < ops.size := (Array.getElem?_eq_some_iff.1 ho).1
        have := h1 j (by omega)
        rw [getD_get (by omega) true false] at p1
        rw [p1] at this; cases this
      refine ⟨hall, ?_⟩
      rw [List.drop_of_length_le (by rw [hlen]; omega)] at he
      exact hq fr H he a w hg
    | succ f ih =>
      intro k listed fr H a w hk hkf hls h1 h2 he hg
      have hklt : k < ops.size := by omega
      have hko : ops[k]? = some ops[k] := Array.getElem?_eq_getElem hklt
      have hready : ∀ j ∈ Region.ready .any ops listed, j = k := by
        intro j hj
        rw [mem_ready] at hj
        obtain ⟨p1, o, ho, p2⟩ := hj
        have hlt : j < ops.size := (Array.getElem?_eq_some_iff.1 ho).1
        rcases Nat.lt_trichotomy j k with hjk | rfl | hjk
        · have := h1 j hjk
          rw [getD_get (by omega) true false] at p1
          rw [p1] at this; cases this
        · rfl
        · obtain ⟨e, he, hb, hon⟩ := htail ho (by omega) k hjk
          have := p2 e he hb
          rw [hon, h2 k (Nat.le_refl _)] at this
          cases this
      have hin : k ∈ Region.ready .any ops listed := by
        rw [mem_ready]
        refine ⟨by rw [getD_get (by omega) true false]; exact h2 k (Nat.le_refl _), _, hko, fun e he hb => h1 _ (back hko e he hb)⟩
      refine ⟨(fun hnil => by rw [hnil] at hin; cases hin), fun j hj => ?_⟩
      have := hready j hj
      subst this
      have hdrop : ops.toList.drop j = ops[j] :: ops.toList.drop (j + 1) := by
        rw [List.drop_eq_getElem_cons (by rw [hlen]; exact hklt)]
        simp
      rw [hdrop] at he
      have hl1 : ∀ i, i < j + 1 → (listed.setIfInBounds j true).getD i false = true := by
        intro i hi
        by_cases e : i = j
        · subst e; simp [show i < listed.size by omega]
        · rw [getD_set_ne false (fun e' => e e'.symm)]; exact h1 i (by omega)
      have hl2 : ∀ i, j + 1 ≤ i → (listed.setIfInBounds j true).getD i false = false := by
        intro i hi
        rw [getD_set_ne false (by omega)]; exact h2 i (by omega)
      have key : ∀ (Kn : Act → World → Prop), (∀ fr1 H1 a1 w1, evalOps C ops (ops.toList.drop (j + 1)) fr1 H1 K → Good C w0 M0 own0 fr1 H1 a1 w1 → Kn a1 w1) → wpOp P ops Q j Kn a w := by
        intro Kn hKn
        obtain ⟨s1, s2⟩ := evalOps_step (Q := Q) L hc he hg hKn
        unfold wpOp
        rw [hko]
        simp only
        cases hw : Region.wanted ops[j] (yielded ops a.tmps) with
        | true => rw [if_pos rfl]; exact .inl (s1 hw)
        | false => rw [if_neg (by simp)]; exact s2 hw
      exact key _ fun fr1 H1 a1 w1 k1 k2 => ih (j + 1) _ fr1 H1 a1 w1 (by omega) (by omega) (by simpa using hls) hl1 hl2 k1 k2

  -- the head, in whatever order
  have count : ∀ (n : Nat) (listed : Array Bool), (∀ j, j < n → listed.getD j false = true) → (∀ j, n ≤ j → listed.getD j false = false) → ∀ m, unl listed (n + m) = m := by
    intro n listed h1 h2 m
    induction m with
    | zero => exact unl_all n h1
    | succ m ih =>
      rw [← Nat.add_assoc]
      simp only [unl, ih, h2 (n + m) (by omega)]
      rfl
  have finish : ∀ (f : Nat) (listed : Array Bool) (a : Act) (w : World) (g : List G) (M : Mem) (m : Nat), n + f = ops.size → listed.size = ops.size → (∀ j, j < n → listed.getD j false = true) → (∀ j, n ≤ j → listed.getD j false = false) →
      m ≤ cntE C ops (List.range n) → (∀ j, j < n → effO C ops j = true → (listed.getD j false = true ↔ cntE C ops (List.range j) < m)) → HR (Hs m) g M w → Base w0 M0 own0 (Hs m) g M w → a.tmps.size = C.ntmps → a.defers = [] →
      (∀ (j : Nat) (o : Oper) (d : Nat), j < n → ops[j]? = some o → o.dst = some d → listed.getD j false = true → VR g M (U j) (a.tmps.getD d Go.undef)) →
      (∀ t, (∀ (j : Nat) (o : Oper), j < n → ops[j]? = some o → o.dst ≠ some t) → VR g M (fr.get t) (a.tmps.getD t Go.undef)) → wpAny P .any ops Q f listed a w := by
    intro f listed a w g M m hnf hls hall htl hmle hmiff hr hb hsz hdf hh ho
    have hmeq : m = cntE C ops (List.range n) := by
      rcases Nat.lt_or_ge m (cntE C ops (List.range n)) with hlt | hge
      · obtain ⟨j, h1, h2, h3⟩ := cnt_hit n hlt
        have := (hmiff j h1 h2).1 (hall j h1)
        omega
      · omega
    subst hmeq
    refine tail f n listed frn _ a w (Nat.le_refl _) hnf hls hall htl hrest ⟨g, M, ⟨fun t => ?_, hsz, hdf⟩, hr, hb⟩
    by_cases ht : ∀ (j : Nat) (o : Oper), j < n → ops[j]? = some o → o.dst ≠ some t
    · rw [hend1 t fun j hj o' hoj => ht j o' ((hordn j).1 hj) hoj]
      exact ho t ht
    · simp only [Classical.not_forall] at ht
      obtain ⟨j, o, hj, hoj, hd'⟩ := ht
      simp only [ne_eq, Classical.not_not] at hd'
      rw [hend2 j o t ((hordn j).2 hj) hoj hd' fun k hk hne o'' hok e => hne (hdist hok ((hordn k).1 hk) hoj hj e hd')]
      exact hh j o t hj hoj hd' (hall j hj)
  -- allocations have been done, and nothing else knows of them
  let Tr : World → Mem → Z → Prop := fun w1 M1 z1 => w0.heap.size ≤ w1.heap.size ∧ (∀ b, b < w0.heap.size → ¬ own0.own b → w1.heap[b]? = w0.heap[b]?) ∧ (∀ b, z1.own b → own0.own b ∨ w0.heap.size ≤ b) ∧ (∀ b cs, M0 b = some cs → M1 b = some cs) ∧
    (∀ b cs, M1 b = some cs → M0 b = some cs ∨ own0.own b ∨ w0.heap.size ≤ b) ∧ (w1.os = w0.os ∧ w1.tape = w0.tape ∧ w1.output = w0.output) ∧ ∀ id x, own0.gx id x → z1.gx id x
  have trB : ∀ {w1 : World} {M1 : Mem} {z1 : Z}, Tr w1 M1 z1 → ∀ {H : Heap} {g : List G} {M : Mem} {w : World}, Base w1 M1 z1 H g M w → Base w0 M0 own0 H g M w := by
    rintro w1 M1 z1 ⟨t1, t2, t3, t4, t5, ⟨t6, t7, t8⟩, t9⟩ H g M w hb
    refine ⟨Nat.le_trans t1 hb.size, fun b q1 q2 => ?_, fun b q => ?_, fun b cs q => hb.mle b cs (t4 b cs q), fun b cs q => ?_, hb.os.trans t6, hb.tape.trans t7, hb.output.trans t8, fun id x q => hb.gbox id x (t9 id x q)⟩
    · rw [hb.keep b (by omega) fun k => by
        rcases t3 b k with k | k
        · exact q2 k
        · omega]
      exact t2 b q1 q2
    · rcases hb.own b q with k | k
      · exact t3 b k
      · exact .inr (by omega)
    · rcases hb.mnew b cs q with k | k | k
      · exact t5 b cs k
      · rcases t3 b k with k | k
        · exact .inr (.inl k)
        · exact .inr (.inr k)
      · exact .inr (.inr (by omega))
  let PendQ : World → Mem → Z → Act → Nat → Nat → Prop := fun w1 M1 z1 a q b => ∃ (oL : Oper) (tL : TypeId) (dL : Nat), ops[q]? = some oL ∧ oL.op = .alloc tL ∧ oL.dst = some dL ∧ a.tmps.getD dL Go.undef = .pointer (some ⟨b, 0, none⟩) ∧ b < w1.heap.size ∧ w1.heap[b]? = some (.cells (C.ti tL).zero.cells tL (0, 0)) ∧ M1 b = none ∧ ¬ z1.own b ∧ w0.heap.size ≤ b
  let Pend : World → Mem → Z → Act → List Nat → Prop := fun w1 M1 z1 a pl => ∃ bf : Nat → Nat, (∀ q ∈ pl, PendQ w1 M1 z1 a q (bf q)) ∧ ∀ q ∈ pl, ∀ q' ∈ pl, bf q = bf q' → q = q'
  have heA : ∀ q, floatOk C ops.toList n q = true → effO C ops q = true := by
    intro q hq'
    obtain ⟨oL, tL, dL, hoL, hopL, _⟩ := hflo q hq'
    rw [heff hoL, hopL]
    rfl
  have hinj : ∀ {i j : Nat}, effO C ops i = true → effO C ops j = true → cntE C ops (List.range i) = cntE C ops (List.range j) → i = j := by
    intro i j hi hj e
    rcases Nat.lt_trichotomy i j with h' | h' | h'
    · have := cntE_range_lt C ops h' hi; omega
    · exact h'
    · have := cntE_range_lt C ops h' hj; omega
  have adopt : ∀ (q : Nat) (_ : floatOk C ops.toList n q = true) (b : Nat) (a : Act) (w : World) (g : List G) (M : Mem) (w1 : World) (M1 : Mem) (z1 : Z) (m : Nat), cntE C ops (List.range q) = m → HR (Hs m) g M w → Base w1 M1 z1 (Hs m) g M w → PendQ w1 M1 z1 a q b →
      ∃ g', HR (Hs (m + 1)) g' M w ∧ Base w1 M1 ⟨fun x => z1.own x ∨ x = b, z1.gx, z1.n, z1.lt, z1.fx⟩ (Hs (m + 1)) g' M w ∧ Ext g M g' M ∧ ∀ o d, ops[q]? = some o → o.dst = some d → VR g' M (U q) (a.tmps.getD d Go.undef) := by
    rintro q hfl b a w g M w1 M1 z1 m hp hr hb ⟨oL, tL, dL, ho', hop', hd'', hb1, hb2, hb3, hb4, hb5, hb6⟩
    obtain ⟨oL', tL', dL', hoL, hopL, hbL, hzL, hgL, hdL, hdlt, hqn, hused⟩ := hflo q hfl
    rw [hoL] at ho'
    cases ho'
    rw [hopL] at hop'
    cases hop'
    rw [hdL] at hd''
    cases hd''
    have hz : (!Nat.beq (C.ti tL).size 0) = true := by
      cases e : Nat.beq (C.ti tL).size 0 with
      | false => rfl
      | true => exact absurd (beq_true e) hzL
    have hApp : U q = .ptr (Hs m).length 0 ∧ Hs (m + 1) = Hs m ++ [.box (zeroCells (C.ti tL))] := by
      obtain ⟨l1, l2, hsp, hcnt, hin1, hl1n⟩ := hpos hqn hoL
      obtain ⟨hran, _⟩ := hat l1 q l2 oL hsp hoL
      rw [hcnt, hearly hqn (heA q hfl), cond_false, hp, heA q hfl, cond_true] at hran
      rcases hran with ⟨fr', _, hev, _⟩ | ⟨_, _, j, want, dg, hgd, _⟩
      · have := hev (fun v H' => v = U q ∧ H' = Hs (m + 1)) ⟨rfl, rfl⟩
        simp only [evalOpD, evalOp, hopL, hbL, hz, cond_true] at this
        exact ⟨this.1.symm, this.2.symm⟩
      · rw [hgL] at hgd; cases hgd
    have hbw : w.heap[b]? = some (.cells (C.ti tL).zero.cells tL (0, 0)) := (hb.keep b hb2 hb5).trans hb3
    have hbM : M b = none := by
      cases e : M b with
      | none => rfl
      | some cs =>
        rcases hb.mnew b cs e with k | k | k
        · rw [hb4] at k; cases k
        · exact absurd k hb5
        · omega
    have hbO : ¬ Own (Hs m) g b := fun k => by
      rcases hb.own b k with k | k
      · exact hb5 k
      · omega
    have hE := Ext.snoc g M (.box b)
    have hr2 : HR (Hs m ++ [.box (zeroCells (C.ti tL))]) (g ++ [.box b]) M w := hr.adopt1 hbw ((VRs_ofVal1 g M _).mono hE) (clear_zero _) hbM hbO
    have hbase2 : Base w1 M1 ⟨fun x => z1.own x ∨ x = b, z1.gx, z1.n, z1.lt, z1.fx⟩ (Hs m ++ [.box (zeroCells (C.ti tL))]) (g ++ [.box b]) M w := by
      refine ⟨hb.size, fun b' k1 k2 => hb.keep b' k1 fun k => k2 (.inl k), fun b' hb' => ?_, hb.mle, fun b' cs k => ?_, hb.os, hb.tape, hb.output, fun id x hx => ?_⟩
      · rcases own_snoc hr.len hb' with k | k
        · exact (hb.own b' k).imp .inl fun k => k
        · simp only [ownB] at k
          exact .inl (.inr (by first | exact k | exact k.symm))
      · rcases hb.mnew b' cs k with k | k | k
        · exact .inl k
        · exact .inr (.inl (.inl k))
        · exact .inr (.inr k)
      · have := hb.gbox id x hx
        rw [List.getElem?_append_left (lt_of_get this)]; exact this
    refine ⟨g ++ [.box b], by rw [hApp.2]; exact hr2, by rw [hApp.2]; exact hbase2, hE, fun o d e1 e2 => ?_⟩
    rw [hoL] at e1
    cases e1
    rw [hdL] at e2
    cases e2
    rw [hApp.1, hb1]
    exact .ptr _ 0 b (by rw [hr.len, List.getElem?_append_right (Nat.le_refl _), Nat.sub_self]; rfl)
  have headx : ∀ (f : Nat) (pl : List Nat) (w1 : World) (M1 : Mem) (z1 : Z) (_ : CallsOk P C M1 z1) (listed : Array Bool) (a : Act) (w : World), listed.size = ops.size → unl listed ops.size = f → (∀ j, n ≤ j → listed.getD j false = false) → (∀ q ∈ pl, floatOk C ops.toList n q = true ∧ listed.getD q false = true) →
      Tr w1 M1 z1 → Pend w1 M1 z1 a pl →
      (∀ (j : Nat) (o : Oper), ops[j]? = some o → listed.getD j false = true → ∀ e ∈ o.after, Region.binds .any e = true → listed.getD e.on false = true) →
      (∃ g M m, m ≤ cntE C ops (List.range n) ∧ (∀ q ∈ pl, m < cntE C ops (List.range q)) ∧ (∀ j, j < n → effO C ops j = true → j ∉ pl → (listed.getD j false = true ↔ cntE C ops (List.range j) < m)) ∧ HR (Hs m) g M w ∧ Base w1 M1 z1 (Hs m) g M w ∧ a.tmps.size = C.ntmps ∧ a.defers = [] ∧
        (∀ (j : Nat) (o : Oper) (d : Nat), j < n → ops[j]? = some o → o.dst = some d → listed.getD j false = true → j ∉ pl → VR g M (U j) (a.tmps.getD d Go.undef)) ∧
        (∀ t, (∀ (j : Nat) (o : Oper), j < n → ops[j]? = some o → o.dst ≠ some t) → VR g M (fr.get t) (a.tmps.getD t Go.undef))) → wpAny P .any ops Q f listed a w := by
    have noPend : ∀ (pl : List Nat) (listed : Array Bool) (m : Nat), (∀ j, j < n → listed.getD j false = true) → (∀ q ∈ pl, floatOk C ops.toList n q = true ∧ listed.getD q false = true) → (∀ q ∈ pl, m < cntE C ops (List.range q)) → (∀ j, j < n → effO C ops j = true → j ∉ pl → (listed.getD j false = true ↔ cntE C ops (List.range j) < m)) → pl = [] := by
      intro pl listed m hall hpl hmp hmiff
      cases pl with
      | nil => rfl
      | cons q pl =>
        exfalso
        have h1 := hmp q (by simp)
        obtain ⟨_, _, _, _, _, _, _, _, _, _, hqn, _⟩ := hflo q (hpl q (by simp)).1
        obtain ⟨j, k1, k2, k3⟩ := cnt_hit q h1
        have := (hmiff j (by omega) k2 fun hj => by have := hmp j hj; omega).1 (hall j (by omega))
        omega
    intro f
    induction f with
    | zero =>
      rintro pl w1 M1 z1 hc1 listed a w hls hun htl hpl hTr hpend hcl ⟨g, M, m, hmle, hmp, hmiff, hr, hb, hsz, hdf, hh, ho⟩
      have hall := unl_zero ops.size hun
      have hnn : n = ops.size := by
        rcases Nat.lt_or_ge n ops.size with h' | h'
        · have h1 := hall n h'
          rw [htl n (Nat.le_refl _)] at h1; cases h1
        · omega
      have hpf := noPend pl listed m (fun j hj => hall j (by omega)) hpl hmp hmiff
      subst hpf
      exact finish 0 listed a w g M m (by omega) hls (fun j hj => hall j (by omega)) htl hmle (fun j hj he => hmiff j hj he (by simp)) hr (trB hTr hb) hsz hdf (fun j o d hj hoj hd' hl => hh j o d hj hoj hd' hl (by simp)) ho
    | succ f ih =>
      -- on with the allocations, as ones that are known where their turn has come
      have resume : ∀ (k : Nat) (pl : List Nat) (w1 : World) (M1 : Mem) (z1 : Z) (_ : CallsOk P C M1 z1) (listed : Array Bool) (a : Act) (w : World) (g : List G) (M : Mem) (m : Nat), cntE C ops (List.range n) - m = k → listed.size = ops.size → unl listed ops.size = f → (∀ j, n ≤ j → listed.getD j false = false) → (∀ q ∈ pl, floatOk C ops.toList n q = true ∧ listed.getD q false = true) → Tr w1 M1 z1 → Pend w1 M1 z1 a pl →
          (∀ (j : Nat) (o : Oper), ops[j]? = some o → listed.getD j false = true → ∀ e ∈ o.after, Region.binds .any e = true → listed.getD e.on false = true) →
          m ≤ cntE C ops (List.range n) → (∀ q ∈ pl, m ≤ cntE C ops (List.range q)) → (∀ j, j < n → effO C ops j = true → j ∉ pl → (listed.getD j false = true ↔ cntE C ops (List.range j) < m)) → HR (Hs m) g M w → Base w1 M1 z1 (Hs m) g M w → a.tmps.size = C.ntmps → a.defers = [] →
          (∀ (j : Nat) (o : Oper) (d : Nat), j < n → ops[j]? = some o → o.dst = some d → listed.getD j false = true → j ∉ pl → VR g M (U j) (a.tmps.getD d Go.undef)) →
          (∀ t, (∀ (j : Nat) (o : Oper), j < n → ops[j]? = some o → o.dst ≠ some t) → VR g M (fr.get t) (a.tmps.getD t Go.undef)) → wpAny P .any ops Q f listed a w := by
        intro k
        induction k with
        | zero =>
          intro pl w1 M1 z1 hc1 listed a w g M m hk hls hun htl hpl hTr hpend hcl hmle hmp hmiff hr hb hsz hdf hh ho
          refine ih pl w1 M1 z1 hc1 listed a w hls hun htl hpl hTr hpend hcl ⟨g, M, m, hmle, fun q hq' => ?_, hmiff, hr, hb, hsz, hdf, hh, ho⟩
          exfalso
          obtain ⟨_, _, _, _, _, _, _, _, _, _, hqn, _⟩ := hflo q (hpl q hq').1
          have h1 := cntE_range_lt C ops hqn (heA q (hpl q hq').1)
          have := hmp q hq'
          omega
        | succ k ihk =>
          intro pl w1 M1 z1 hc1 listed a w g M m hk hls hun htl hpl hTr hpend hcl hmle hmp hmiff hr hb hsz hdf hh ho
          by_cases hex : ∃ q ∈ pl, cntE C ops (List.range q) = m
          · obtain ⟨q, hqp, hpq⟩ := hex
            obtain ⟨hfl, hlq⟩ := hpl q hqp
            obtain ⟨bf, hbf1, hbf2⟩ := hpend
            obtain ⟨g', r1, r2, r3, r4⟩ := adopt q hfl (bf q) a w g M w1 M1 z1 m hpq hr hb (hbf1 q hqp)
            obtain ⟨oL, tL, dL, hoL, hopL, hbL, hzL, hgL, hdL, hdlt, hqn, hused⟩ := hflo q hfl
            obtain ⟨_, _, _, _, _, _, _, _, _, _, _, hbq⟩ := hbf1 q hqp
            have hpn : cntE C ops (List.range q) < cntE C ops (List.range n) := cntE_range_lt C ops hqn (heA q hfl)
            have hmem : ∀ {x : Nat}, x ∈ pl.filter (fun x => !Nat.beq x q) ↔ x ∈ pl ∧ x ≠ q := by
              intro x
              rw [List.mem_filter]
              refine and_congr_right fun _ => ?_
              cases e : Nat.beq x q with
              | true => have := beq_true e; simp [this]
              | false =>
                have : x ≠ q := fun e' => by subst e'; rw [Nat.beq_refl] at e; cases e
                simp [this]
            obtain ⟨t1, t2, t3, t4, t5, t6, t9⟩ := hTr
            refine ihk (pl.filter fun x => !Nat.beq x q) w1 M1 ⟨fun x => z1.own x ∨ x = bf q, z1.gx, z1.n, z1.lt, z1.fx⟩ ⟨hc1.1, hc1.2.1, hc1.2.2⟩ listed a w g' M (m + 1) (by omega) hls hun htl (fun x hx => hpl x (hmem.1 hx).1) ⟨t1, t2, fun b k => ?_, t4, t5, t6, t9⟩ ⟨bf, fun x hx => ?_, fun x hx y hy => hbf2 x (hmem.1 hx).1 y (hmem.1 hy).1⟩ hcl (by omega) (fun x hx => ?_) (fun j hj he hjp => ?_) r1 r2 hsz hdf (fun j o d hj hoj hd' hl hjp => ?_) (fun t ht => (ho t ht).mono r3)
            · rcases k with k | k
              · exact t3 b k
              · exact .inr (by omega)
            · obtain ⟨hx1, hx2⟩ := hmem.1 hx
              obtain ⟨c1, c2, c3, c4, c5, c6, c7, c8, c9, c10, c11, c12⟩ := hbf1 x hx1
              exact ⟨c1, c2, c3, c4, c5, c6, c7, c8, c9, c10, (fun k => k.elim c11 fun k => hx2 (hbf2 x hx1 q hqp k)), c12⟩
            · obtain ⟨hx1, hx2⟩ := hmem.1 hx
              have h1 := hmp x hx1
              rcases Nat.lt_or_ge m (cntE C ops (List.range x)) with h2 | h2
              · omega
              · exact absurd (hinj (heA x (hpl x hx1).1) (heA q hfl) (by omega)) hx2
            · by_cases ejq : j = q
              · rw [ejq, hlq, hpq]
                simp
              · rw [hmiff j hj he fun hj' => hjp (hmem.2 ⟨hj', ejq⟩)]
                rcases Nat.lt_or_ge j q with hjq | hjq
                · have := cntE_range_lt C ops hjq he
                  omega
                · have := cntE_range_lt C ops (show q < j by omega) (heA q hfl)
                  omega
            · by_cases ejq : j = q
              · rw [ejq] at hoj ⊢
                exact r4 o d hoj hd'
              · exact (hh j o d hj hoj hd' hl fun hj' => hjp (hmem.2 ⟨hj', ejq⟩)).mono r3
          · refine ih pl w1 M1 z1 hc1 listed a w hls hun htl hpl hTr hpend hcl ⟨g, M, m, hmle, fun q hq' => ?_, hmiff, hr, hb, hsz, hdf, hh, ho⟩
            have h1 := hmp q hq'
            rcases Nat.lt_or_ge m (cntE C ops (List.range q)) with h2 | h2
            · exact h2
            · exact absurd ⟨q, hq', by omega⟩ hex
      rintro pl w1 M1 z1 hc1 listed a w hls hun htl hpl hTr hpend hcl ⟨g, M, m, hmle, hmp, hmiff, hr, hb, hsz, hdf, hh, ho⟩
      by_cases hall : ∀ j, j < n → listed.getD j false = true
      · have hpf := noPend pl listed m hall hpl hmp hmiff
        subst hpf
        have := count n listed hall htl (ops.size - n)
        rw [show n + (ops.size - n) = ops.size by omega] at this
        exact finish (f + 1) listed a w g M m (by omega) hls hall htl hmle (fun j hj he => hmiff j hj he (by simp)) hr (trB hTr hb) hsz hdf (fun j o d hj hoj hd' hl => hh j o d hj hoj hd' hl (by simp)) ho
      · -- the least one that is not listed may come up
        have hmin : ∃ j, j < n ∧ listed.getD j false = false ∧ ∀ i, i < j → listed.getD i false = true := by
          simp only [Classical.not_forall] at hall
          obtain ⟨j, hj, hlj⟩ := hall
          induction j using Nat.strongRecOn with
          | _ j ihj =>
            by_cases hless : ∀ i, i < j → listed.getD i false = true
            · exact ⟨j, hj, by simpa using hlj, hless⟩
            · simp only [Classical.not_forall] at hless
              obtain ⟨i, hi, hli⟩ := hless
              exact ihj i hi (by omega) hli
        obtain ⟨j0, hj0, hlj0, hless⟩ := hmin
        have hj0s : j0 < ops.size := by omega
        have hj0r : j0 ∈ Region.ready .any ops listed := by
          rw [mem_ready]
          have hko : ops[j0]? = some ops[j0] := Array.getElem?_eq_getElem hj0s
          refine ⟨by rw [getD_get (by omega) true false]; exact hlj0, _, hko, fun e he hbb => hless _ (back hko e he hbb)⟩
        refine ⟨(fun hnil => by rw [hnil] at hj0r; cases hj0r), fun i hi => ?_⟩
        rw [mem_ready] at hi
        obtain ⟨hi1, o, hoi, hi2⟩ := hi
        have his : i < ops.size := (Array.getElem?_eq_some_iff.1 hoi).1
        have hli : listed.getD i false = false := by rw [getD_get (by omega) false true]; exact hi1
        have hipl : i ∉ pl := fun h' => by rw [(hpl i h').2] at hli; cases hli
        by_cases hiL : floatOk C ops.toList n i = true
        · -- an allocation
          obtain ⟨oL, tL, dL, hoL, hopL, hbL, hzL, hgL, hdL, hdlt, hqn, hused⟩ := hflo i hiL
          have hmle2 : m ≤ cntE C ops (List.range i) := by
            rcases Nat.lt_or_ge (cntE C ops (List.range i)) m with h' | h'
            · have := (hmiff i hqn (heA i hiL) hipl).2 h'
              rw [hli] at this; cases this
            · exact h'
          have eo : o = oL := by rw [hoL] at hoi; exact (Option.some.inj hoi).symm
          subst eo
          unfold wpOp
          rw [hoi]
          simp only
          have hw : Region.wanted o (yielded ops a.tmps) = true := by simp [Region.wanted, hgL]
          rw [if_pos hw]
          left
          have F := L.get (t := tL) (.inr hzL)
          have hold : ∀ b, b < w.heap.size → (w.alloc (.cells (C.ti tL).zero.cells tL)).heap[b]? = w.heap[b]? := by
            intro b hb'
            show (w.heap.push _)[b]? = _
            rw [Array.getElem?_push, if_neg (by omega)]
          have Fm : Frame0 w (w.alloc (.cells (C.ti tL).zero.cells tL)) M M := ⟨by simp, hold, fun _ _ h => h, fun _ _ h => .inl h, rfl, rfl, rfl⟩
          have hmem : MemOk M (w.alloc (.cells (C.ti tL).zero.cells tL)) := by
            intro b cs hm'
            obtain ⟨c, T, fz, k1, k2⟩ := hr.mem b cs hm'
            exact ⟨c, T, fz, (hold b (lt_of_cells k1)).trans k1, k2⟩
          have hsz2 : (w.alloc (.cells (C.ti tL).zero.cells tL)).heap.size = w.heap.size + 1 := by simp
          have hown : ¬ Own (Hs m) g w.heap.size := by
            rintro ⟨id', o', x', q1, q2, q3⟩
            have := (Ev.own_lt (hr.ob id' o' x' q1 q2) q3).1
            omega
          have hMn : M w.heap.size = none := by
            cases hm' : M w.heap.size with
            | none => rfl
            | some cs' =>
              obtain ⟨c', T', fz', k1, k2⟩ := hr.mem _ _ hm'
              have := lt_of_cells k1
              omega
          have hb0 := trB hTr hb
          have hbs := hb0.size
          have hbs1 := hb.size
          obtain ⟨bf, hbf1, hbf2⟩ := hpend
          refine Oper.wp_value (val := .pointer (some ⟨w.heap.size, 0, none⟩)) (w' := w.alloc (.cells (C.ti tL).zero.cells tL)) (by simp [execOp, hopL, Instr.alloc, F.run_zeroValue, newVar, newRow]) ?_
          have hset : ∀ k, k ≠ i → (listed.setIfInBounds i true).getD k false = listed.getD k false := fun k hk => getD_set_ne false (fun e => hk e.symm)
          have hseti : (listed.setIfInBounds i true).getD i false = true := by simp [show i < listed.size by omega]
          have hput : ∀ t, t ≠ dL → (a.put o.dst (.pointer (some ⟨w.heap.size, 0, none⟩))).tmps.getD t Go.undef = a.tmps.getD t Go.undef := by
            intro t ht
            rw [hdL]
            simp only [Act.put]
            simp [Array.getD_eq_getD_getElem?, Array.getElem?_setIfInBounds, Ne.symm ht]
          have hputd : (a.put o.dst (.pointer (some ⟨w.heap.size, 0, none⟩))).tmps.getD dL Go.undef = .pointer (some ⟨w.heap.size, 0, none⟩) := by
            rw [hdL]
            simp only [Act.put]
            rw [Nat.blt_eq] at hdlt
            simp [Array.getD, hsz, hdlt]
          have hgx : ∀ id x, own0.gx id x → z1.gx id x := hTr.2.2.2.2.2.2
          refine resume _ (i :: pl) (w.alloc (.cells (C.ti tL).zero.cells tL)) M ⟨Own (Hs m) g, z1.gx, z1.n, z1.lt, z1.fx⟩ ⟨hc1.1.mono hb.mle, hc1.2.1, hc1.2.2⟩ _ _ _ g M m rfl (by simpa using hls) ?_ (fun j hj => by rw [hset j (by omega)]; exact htl j hj) (fun x hx => ?_)
            ⟨by omega, fun b k1 k2 => (hold b (by omega)).trans (hb0.keep b k1 k2), hb0.own, hb0.mle, hb0.mnew, ⟨hb0.os, hb0.tape, hb0.output⟩, hgx⟩ ⟨fun x => bif Nat.beq x i then w.heap.size else bf x, fun x hx => ?_, fun x hx y hy e => ?_⟩ ?_ hmle (fun x hx => ?_) (fun j hj he hjp => ?_) (hr.frame Fm hmem) ⟨Nat.le_refl _, fun _ _ _ => rfl, fun _ h' => .inl h', fun _ _ h' => h', fun _ _ h' => .inl h', rfl, rfl, rfl, hb.gbox⟩ ?_ ?_ ?_ ?_
          · have := unl_set (listed := listed) (i := i) (by omega) hli ops.size his
            omega
          · by_cases e : x = i
            · rw [e]; exact ⟨hiL, hseti⟩
            · rw [hset x e]
              rcases List.mem_cons.1 hx with h' | h'
              · exact absurd h' e
              · exact hpl x h'
          · by_cases e : x = i
            · simp only [e, Nat.beq_refl, cond_true]
              exact ⟨o, tL, dL, hoL, hopL, hdL, hputd, by omega, by show (w.heap.push _)[_]? = _; simp, hMn, hown, hbs⟩
            · have hbx : Nat.beq x i = false := by
                cases e' : Nat.beq x i with
                | false => rfl
                | true => exact absurd (beq_true e') e
              have hx' : x ∈ pl := by
                rcases List.mem_cons.1 hx with h' | h'
                · exact absurd h' e
                · exact h'
              simp only [hbx, cond_false]
              obtain ⟨c1, c2, c3, c4, c5, c6, c7, c8, c9, c10, c11, c12⟩ := hbf1 x hx'
              have hxn : x < n := by
                obtain ⟨_, _, _, _, _, _, _, _, _, _, hxn, _⟩ := hflo x (hpl x hx').1
                exact hxn
              refine ⟨c1, c2, c3, c4, c5, c6, by rw [hput c3 fun e' => (hused x c1 c4 hxn e).1 (e' ▸ c6)]; exact c7, by omega, ?_, ?_, fun k => ?_, c12⟩
              · rw [hold _ (by omega), hb.keep _ c8 c11]; exact c9
              · cases e' : M (bf x) with
                | none => rfl
                | some cs =>
                  rcases hb.mnew _ cs e' with k | k | k
                  · rw [c10] at k; cases k
                  · exact absurd k c11
                  · omega
              · rcases hb.own _ k with k | k
                · exact c11 k
                · omega
          · have hlt : ∀ x ∈ pl, bf x < w.heap.size := fun x hx => by
              obtain ⟨c1, c2, c3, c4, c5, c6, c7, c8, c9, c10, c11, c12⟩ := hbf1 x hx
              omega
            have hne : ∀ {x : Nat}, x ∈ i :: pl → x ≠ i → Nat.beq x i = false ∧ x ∈ pl := by
              intro x hx e
              refine ⟨?_, ?_⟩
              · cases e' : Nat.beq x i with
                | false => rfl
                | true => exact absurd (beq_true e') e
              · rcases List.mem_cons.1 hx with h' | h'
                · exact absurd h' e
                · exact h'
            by_cases ex : x = i <;> by_cases ey : y = i
            · rw [ex, ey]
            · obtain ⟨k1, k2⟩ := hne hy ey
              simp only [ex, Nat.beq_refl, k1, cond_true, cond_false] at e
              have := hlt y k2
              omega
            · obtain ⟨k1, k2⟩ := hne hx ex
              simp only [ey, Nat.beq_refl, k1, cond_true, cond_false] at e
              have := hlt x k2
              omega
            · obtain ⟨k1, k2⟩ := hne hx ex
              obtain ⟨k3, k4⟩ := hne hy ey
              simp only [k1, k3, cond_false] at e
              exact hbf2 x k2 y k4 e
          · intro j o' hoj hlj e he hb'
            have key : listed.getD e.on false = true → (listed.setIfInBounds i true).getD e.on false = true := fun q => by
              by_cases ee : e.on = i
              · rw [ee]; exact hseti
              · rw [hset _ ee]; exact q
            by_cases e' : j = i
            · subst e'
              rw [hoi] at hoj; cases hoj
              exact key (hi2 e he hb')
            · rw [hset j e'] at hlj
              exact key (hcl j o' hoj hlj e he hb')
          · rcases List.mem_cons.1 hx with h' | h'
            · rw [h']; exact hmle2
            · have := hmp x h'
              omega
          · rw [hset j fun e => hjp (by rw [e]; simp)]
            exact hmiff j hj he fun h' => hjp (List.mem_cons_of_mem _ h')
          · rw [hdL]; simp [Act.put, hsz]
          · rw [hdL]; exact hdf
          · intro j o' d' hj hoj hd' hlj hne
            have hji : j ≠ i := fun e => hne (by rw [e]; simp)
            rw [hset j hji] at hlj
            rw [hput d' (fun e => (hused j o' hoj hj hji).1 (e ▸ hd'))]
            exact hh j o' d' hj hoj hd' hlj fun h' => hne (List.mem_cons_of_mem _ h')
          · intro t hnw
            rw [hput t fun e => hnw i o hqn hoi (by rw [hdL, e])]
            exact ho t hnw
        have hin : i < n := by
          rcases Nat.lt_or_ge i n with h' | h'
          · exact h'
          · obtain ⟨e, he, hbb, hon⟩ := htail hoi (by omega) j0 (by omega)
            have := hi2 e he hbb
            rw [hon, hlj0] at this; cases this
        -- what is waited for is done
        have hmask : ∀ j, (ms.getD i 0).testBit j = true → listed.getD j false = true := by
          have := mask_done (l := ops.toList) (D := fun j => listed.getD j false = true) (fun k o' ho' e he hb' => back (hops' ho') e he hb') (fun k o' ho' hk e he hb' => hcl k o' (hops' ho') hk e he hb') i o (hops hoi) (fun e he hb' => hi2 e he hb')
          rw [hms] at this
          exact this
        have hmaskd : ∀ k, listed.getD k false = true → ∀ j, (ms.getD k 0).testBit j = true → listed.getD j false = true := by
          intro k hk j hj
          have hks : k < ops.size := by
            rcases Nat.lt_or_ge k ops.size with h' | h'
            · exact h'
            · rw [show listed.getD k false = false by simp [Array.getD, show ¬ k < listed.size by omega]] at hk; cases hk
          have hok : ops[k]? = some ops[k] := Array.getElem?_eq_getElem hks
          have := mask_done (l := ops.toList) (D := fun j => listed.getD j false = true) (fun k o' ho' e he hb' => back (hops' ho') e he hb') (fun k o' ho' hk e he hb' => hcl k o' (hops' ho') hk e he hb') k _ (hops hok) (fun e he hb' => hcl k _ hok hk e he hb')
          rw [hms] at this
          exact this j hj
        have hho := hhead hoi hin hiL
        simp only [headOk, Bool.and_eq_true] at hho
        obtain ⟨l1, l2, hsp, hcnt, hin1, hl1n⟩ := hpos hin hoi
        obtain ⟨hran, hdn, hψ1, hψ2⟩ := hat l1 i l2 o hsp hoi
        rw [hcnt] at hran
        -- early ones wait for early ones
        have hearlyd : ∀ e ∈ o.after, Region.binds .any e = true → early C (ops.toList.take n) ms i = true → early C (ops.toList.take n) ms e.on = true := hearlyd0 hin hoi
        -- a slot that has been written by one that is listed
        have hdone : ∀ (j : Nat) (o' : Oper) (t : Nat), j < i → ops[j]? = some o' → o'.dst = some t → edgeOn o j = true → j ∉ pl → VR g M (Ψ i t) (a.tmps.getD t Go.undef) := by
          intro j o' t hj hoj hdj he hjq
          obtain ⟨e, he1, he2, he3⟩ := edgeOn_sound he
          have hjl : j ∈ l1 := hin1 j hj fun hei => by rw [← he3]; exact hearlyd e he1 he2 hei
          rw [hψ2 j o' t hjl hoj hdj fun k hk hne o'' hok e' => hne (hdist hok ((hordn k).1 hk) hoj (by omega) e' hdj)]
          have := hi2 e he1 he2
          rw [he3] at this
          exact hh j o' t (by omega) hoj hdj this hjq
        have hvs0 := hho.2
        have hEmP : ∀ q ∈ pl, effO C ops i = true → i < q := by
          intro q hqp he
          have hfq := (hpl q hqp).1
          obtain ⟨_, _, _, _, _, _, _, _, _, _, hqn, _⟩ := hflo q hfq
          rcases Nat.lt_trichotomy i q with h' | h' | h'
          · exact h'
          · exact absurd (h' ▸ hfq) hiL
          · exfalso
            -- all effects ahead of it are done, the allocation's turn too
            have hmp' := hmp q hqp
            obtain ⟨j, p1, p2, p3⟩ := cnt_hit q hmp'
            have hoj : ops[j]? = some ops[j] := Array.getElem?_eq_getElem (by omega)
            have hv := all_zipIdx hvs0 (htake' (show j < n by omega) hoj)
            have p2' := p2
            rw [heff hoj] at p2
            rw [heff hoi] at he
            have hbj : Nat.blt j i = true := by rw [Nat.blt_eq]; omega
            have hbit : (ms.getD i 0).testBit j = true := by
              cases ek : kindOf C (ops[j]).op <;> rw [ek] at p2 hv <;> simp only [Kd.eff] at p2 <;> try (cases p2; done)
              all_goals
                cases ek2 : kindOf C o.op <;> rw [ek2] at he hv <;> simp only [Kd.eff] at he <;> try (cases he; done)
                all_goals
                  simpa [hbj] using hv
            have := (hmiff j (by omega) p2' fun hj' => by have := hmp j hj'; omega).1 (hmask j hbit)
            omega
        have hslot : ∀ t, Operand.tmp t ∈ o.op.operands → VR g M (Ψ i t) (a.tmps.getD t Go.undef) := by
          intro t ht
          by_cases hw : ∀ (j : Nat) (o' : Oper), j < n → ops[j]? = some o' → o'.dst ≠ some t
          · rw [hψ1 t fun j hj o' hoj => hw j o' (hl1n j hj) hoj]
            exact ho t hw
          · simp only [Classical.not_forall] at hw
            obtain ⟨j, o', hj, hoj, hd'⟩ := hw
            simp only [ne_eq, Classical.not_not] at hd'
            have h3 := all_zipIdx hho.1.1.2 (htake' hj hoj)
            simp only [hd', Bool.or_eq_true, Bool.not_eq_true', Bool.and_eq_true] at h3
            rcases h3 with k | ⟨k1, k2⟩
            · rw [List.any_eq_false] at k
              exact absurd (by simp) (k (.tmp t) (by simpa using ht))
            · refine hdone j o' t (by rw [Nat.blt_eq] at k1; exact k1) hoj hd' k2 fun hjp => ?_
              obtain ⟨oL, tL, dL, hoL, hopL, hbL, hzL, hgL, hdL, hdlt, hqn, hused⟩ := hflo j (hpl j hjp).1
              rw [hoL] at hoj
              cases hoj
              rw [hdL] at hd'
              cases hd'
              rcases (hused i o hoi hin fun e => hipl (e ▸ hjp)).2.2 with r | ⟨r1, r2⟩
              · exact r _ (by simpa using ht) rfl
              · have := hEmP j hjp (by rw [heff hoi]; exact r1)
                omega
        have hgslot : ∀ (j : Nat) (want : Bool) (dg : Nat), o.guard = some (j, want) → (ops[j]?).bind (·.dst) = some dg → VR g M (Ψ i dg) (a.tmps.getD dg Go.undef) := by
          intro j want dg hgd hdg
          have h4 := hho.1.2
          rw [hgd] at h4
          simp only [Bool.and_eq_true, Nat.blt_eq] at h4
          cases hoj : ops[j]? with
          | none => rw [hoj] at hdg; cases hdg
          | some o' =>
            rw [hoj] at hdg
            exact hdone j o' dg h4.1 hoj hdg h4.2 fun hjp => by
              obtain ⟨oL, tL, dL, hoL, hopL, hbL, hzL, hgL, hdL, hdlt, hqn, hused⟩ := hflo j (hpl j hjp).1
              exact (hused i o hoi hin fun e => hipl (e ▸ hjp)).2.1 j want hgd rfl
        -- how an effect stands to this one
        have hvs : ∀ (j : Nat) (o' : Oper), j < n → ops[j]? = some o' → (match kindOf C o'.op with
            | .blind => true
            | .reads => true
            | .alloc => match kindOf C o.op with
              | .blind => true
              | .reads => early C (ops.toList.take n) ms i || !Nat.blt j i || (ms.getD i 0).testBit j
              | _ => !Nat.blt j i || (ms.getD i 0).testBit j
            | .writes => match kindOf C o.op with
              | .blind => true
              | .reads => bif !early C (ops.toList.take n) ms i && Nat.blt j i then (ms.getD i 0).testBit j else (ms.getD j 0).testBit i || farOp C (ops.toList.take n) ms o i o'
              | _ => !Nat.blt j i || (ms.getD i 0).testBit j) = true := fun j o' hj hoj => all_zipIdx hho.2 (htake' hj hoj)
        have hblt : ∀ {j : Nat}, j < i → Nat.blt j i = true := fun h => by rw [Nat.blt_eq]; exact h
        have hEm : effO C ops i = true → cntE C ops (List.range i) = m := by
          intro he
          have h1 : ¬ cntE C ops (List.range i) < m := fun hlt => by
            have := (hmiff i hin he hipl).2 hlt
            rw [hli] at this; cases this
          rcases Nat.lt_or_ge m (cntE C ops (List.range i)) with h2 | h2
          · exfalso
            obtain ⟨j, p1, p2, p3⟩ := cnt_hit i h2
            have hoj : ops[j]? = some ops[j] := Array.getElem?_eq_getElem (by omega)
            have hv := hvs j _ (by omega) hoj
            rw [heff hoj] at p2
            rw [heff hoi] at he
            have hbit : (ms.getD i 0).testBit j = true := by
              cases ek : kindOf C (ops[j]).op <;> rw [ek] at p2 hv <;> simp only [Kd.eff] at p2 <;> try (cases p2; done)
              all_goals
                cases ek2 : kindOf C o.op <;> rw [ek2] at he hv <;> simp only [Kd.eff] at he <;> try (cases he; done)
                all_goals
                  simpa [hblt p1] using hv
            have := (hmiff j (by omega) (by rw [heff hoj]; exact p2) fun hjp => by have := hmp j hjp; omega).1 (hmask j hbit)
            omega
          · omega
        have hsteps : kindOf C o.op = .reads → (bif early C (ops.toList.take n) ms i then 0 else cntE C ops (List.range i)) ≤ m ∧ ∀ k, (bif early C (ops.toList.take n) ms i then 0 else cntE C ops (List.range i)) ≤ k → k < m →
            (∃ X, Hs (k + 1) = Hs k ++ X) ∨ (C.vw = false ∧ ∃ x av, loadOf o = some x ∧ farA av (frn.eval x) = true ∧ StayOf av (Hs k) (Hs (k + 1))) ∨ (C.vw = true ∧ ∃ x tt, readOf o = some x ∧ apartB tt (idOf (frn.eval x)) = true ∧ StayE tt (Hs k) (Hs (k + 1))) ∨ (C.vw = true ∧ readOf o = none ∧ ∃ as, vcallOf C o = some as ∧ immuts (as.map frn.eval) = true) := by
          intro hk
          have hcm : (bif early C (ops.toList.take n) ms i then 0 else cntE C ops (List.range i)) ≤ m := by
            cases he : early C (ops.toList.take n) ms i with
            | true => exact Nat.zero_le _
            | false =>
              simp only [cond_false]
              rcases Nat.lt_or_ge m (cntE C ops (List.range i)) with h2 | h2
              · exfalso
                obtain ⟨j, p1, p2, p3⟩ := cnt_hit i h2
                have hoj : ops[j]? = some ops[j] := Array.getElem?_eq_getElem (by omega)
                have hv := hvs j _ (by omega) hoj
                have p2' := p2
                rw [heff hoj] at p2
                have hbit : (ms.getD i 0).testBit j = true := by
                  rw [hk, he] at hv
                  cases ek : kindOf C (ops[j]).op <;> rw [ek] at p2 hv <;> simp only [Kd.eff] at p2 <;> try (cases p2; done)
                  all_goals simpa [hblt p1] using hv
                have := (hmiff j (by omega) p2' fun hjp => by have := hmp j hjp; omega).1 (hmask j hbit)
                omega
              · exact h2
          refine ⟨hcm, fun k hk1 hk2 => ?_⟩
          obtain ⟨j, p1, p2, p3⟩ := cnt_hit n (show k < cntE C ops (List.range n) by omega)
          have hoj : ops[j]? = some ops[j] := Array.getElem?_eq_getElem (by omega)
          have hlj : listed.getD j false = true := (hmiff j p1 p2 fun hjp => by have := hmp j hjp; omega).2 (by omega)
          have hv := hvs j _ p1 hoj
          have p2' := p2
          rw [heff hoj] at p2
          obtain ⟨k1, k2, ksp, kcnt, kin, kn⟩ := hpos p1 hoj
          obtain ⟨kran, _⟩ := hat k1 j k2 _ ksp hoj
          rw [kcnt, hearly p1 p2', cond_false, p3, p2', cond_true] at kran
          have hal : kindOf C (ops[j]).op = .alloc ∨ farOp C (ops.toList.take n) ms o i ops[j] = true ∧ (ms.getD j 0).testBit i = false := by
            cases ek : kindOf C (ops[j]).op with
            | blind => rw [ek] at p2; cases p2
            | reads => rw [ek] at p2; cases p2
            | alloc => exact .inl rfl
            | writes =>
              rw [ek, hk] at hv
              simp only at hv
              cases hc1 : (!early C (ops.toList.take n) ms i && Nat.blt j i) with
              | true =>
                exfalso
                simp only [Bool.and_eq_true, Bool.not_eq_true', Nat.blt_eq] at hc1
                rw [hc1.1] at hk1
                simp only [cond_false] at hk1
                have := cntE_range_lt C ops hc1.2 p2'
                omega
              | false =>
                rw [hc1, cond_false] at hv
                cases hb2 : (ms.getD j 0).testBit i with
                | true =>
                  exfalso
                  have := hmaskd j hlj i hb2
                  rw [hli] at this; cases this
                | false =>
                  rw [hb2, Bool.false_or] at hv
                  exact .inr ⟨hv, rfl⟩
          rcases hal with hal | ⟨hfo, hnb⟩
          · rcases kran with ⟨_, _, _, _, q, _⟩ | ⟨_, q, _⟩
            · exact .inl (q hal)
            · exact .inl ⟨[], by rw [q, List.append_nil]⟩
          · rcases kran with ⟨frj, hfrj, hevj, _⟩ | ⟨_, q, _⟩
            · cases hvw : C.vw with
              | true =>
                simp only [farOp, hvw, cond_true, Bool.and_eq_true, Bool.or_eq_true] at hfo
                obtain ⟨hei, hrv, haj⟩ := hfo
                obtain ⟨aj, haj⟩ := Option.isSome_iff_exists.1 haj
                simp only [farOk, hvw, cond_true] at hfar
                have h1 := all_zipIdx hfar (htake' hin hoi)
                cases hx : readOf o with
                | none =>
                  rw [hx] at hrv h1
                  obtain ⟨as, has⟩ := Option.isSome_iff_exists.1 (hrv.resolve_left (by simp))
                  simp only [has, hei, Bool.not_true, Bool.false_or] at h1
                  have h2 := all_zipIdx h1 (htake' p1 hoj)
                  simp only [vcIn, haj, hnb, Bool.false_or] at h2
                  exact .inr (.inr (.inr ⟨rfl, rfl, as, has, h2⟩))
                | some x =>
                simp only [hx, hei, Bool.not_true, Bool.false_or] at h1
                have h2 := all_zipIdx h1 (htake' p1 hoj)
                simp only [farIn, haj, hnb, Bool.false_or] at h2
                split at h2
                · rename_i tt htt
                  have hmap : aj.2.map frj.eval = aj.2.map frn.eval := List.map_congr_left fun y hy => by
                    cases y with
                    | tmp t =>
                      show Fr.get frj t = Fr.get frn t
                      rw [hfrj, hfin p1 hoj ksp kin kn t (touchOf_mem haj hy)]
                    | const v => rfl
                    | global m => rfl
                    | func m => rfl
                  exact .inr (.inr (.inl ⟨rfl, x, tt, rfl, h2, touch_stay hc.2.1 haj (fun _ => rfl) (by rw [hmap]; exact htt) hevj⟩))
                · cases h2
              | false =>
              simp only [farOp, hvw, cond_false, Bool.and_eq_true, Option.isSome_iff_exists] at hfo
              obtain ⟨hei, ⟨x, hx⟩, aj, haj⟩ := hfo
              simp only [farOk, hvw, cond_false] at hfar
              have h1 := all_zipIdx hfar (htake' hin hoi)
              simp only [hx, hei, Bool.not_true, Bool.false_or] at h1
              have h2 := all_zipIdx h1 (htake' p1 hoj)
              simp only [haj, hnb, Bool.false_or] at h2
              have hoa : ∀ t, aj = some (.tmp t) → Operand.tmp t ∈ (ops[j]).op.operands := by
                intro t et
                subst et
                unfold ownArg at haj
                split at haj
                · rename_i f args argTypes eop
                  split at haj
                  · split at haj
                    · rename_i a0 ha0
                      cases haj
                      rw [eop]
                      have := List.mem_of_getElem? (show args.toList[0]? = some (.tmp t) by rw [Array.getElem?_toList]; exact ha0)
                      simp only [Op.operands, Call.operands]
                      simpa using this
                    · cases haj
                  · cases haj
                · cases haj
                · cases haj
                · cases haj
              have hea : ∀ y, aj = some y → Fr.eval frj y = ownV frn aj := by
                rintro y rfl
                cases y with
                | tmp t =>
                  show Fr.get frj t = Fr.get frn t
                  rw [hfrj, hfin p1 hoj ksp kin kn t (hoa t rfl)]
                | const v => rfl
                | global m => rfl
                | func m => rfl
              exact .inr (.inl ⟨rfl, x, _, hx, h2, ownArg_stay hc.2.1 haj (fun _ => rfl) hea hevj⟩)
            · exact .inl ⟨[], by rw [q, List.append_nil]⟩
        have hnext : ∀ m' val g' M' w', m' = m + (bif effO C ops i then 1 else 0) → VR g' M' (U i) val → HR (Hs m') g' M' w' → Base w1 M1 z1 (Hs m') g' M' w' → Ext g M g' M' → wpAny P .any ops Q f (listed.setIfInBounds i true) (a.put o.dst val) w' := by
          intro m' val g' M' w' em p1 p2 p3 p4
          have hset : ∀ k, listed.getD k false = true → (listed.setIfInBounds i true).getD k false = true := by
            intro k hk
            have : i ≠ k := fun e => by rw [e, hk] at hli; cases hli
            rw [getD_set_ne false this]; exact hk
          have hseti : (listed.setIfInBounds i true).getD i false = true := by simp [show i < listed.size by omega]
          have f1 : unl (listed.setIfInBounds i true) ops.size = f := by
            have := unl_set (listed := listed) (i := i) (by omega) hli ops.size his
            omega
          have f2 : ∀ j, n ≤ j → (listed.setIfInBounds i true).getD j false = false := by
            intro j hj
            rw [getD_set_ne false (by omega)]; exact htl j hj
          have f3 : ∀ (j : Nat) (o : Oper), ops[j]? = some o → (listed.setIfInBounds i true).getD j false = true → ∀ e ∈ o.after, Region.binds .any e = true → (listed.setIfInBounds i true).getD e.on false = true := by
            intro j o' hoj hlj e he hb'
            by_cases e' : i = j
            · subst e'
              rw [hoi] at hoj; cases hoj
              exact hset _ (hi2 e he hb')
            · rw [getD_set_ne false e'] at hlj
              exact hset _ (hcl j o' hoj hlj e he hb')
          have f4 : m' ≤ cntE C ops (List.range n) := by
            rw [em]
            cases he : effO C ops i with
            | false => simpa using hmle
            | true =>
              have := cntE_range_lt C ops hin he
              rw [hEm he] at this
              simp only [cond_true]; omega
          have f5 : ∀ j, j < n → effO C ops j = true → j ∉ pl → ((listed.setIfInBounds i true).getD j false = true ↔ cntE C ops (List.range j) < m') := by
            intro j hj hej hjq
            by_cases e' : i = j
            · subst e'
              rw [hseti, em, hej, hEm hej]
              simp
            · rw [getD_set_ne false e', hmiff j hj hej hjq, em]
              cases he : effO C ops i with
              | false => simp
              | true =>
                simp only [cond_true]
                have hm1 := hEm he
                rcases Nat.lt_trichotomy i j with hij | hij | hij
                · have := cntE_range_lt C ops hij he
                  omega
                · exact absurd hij e'
                · have := cntE_range_lt C ops hij hej
                  omega
          have f6 : (a.put o.dst val).tmps.size = C.ntmps := by
            cases hdo : o.dst with
            | none => exact hsz
            | some d => simp [Act.put, hsz]
          have f7 : (a.put o.dst val).defers = [] := by
            cases hdo : o.dst with
            | none => exact hdf
            | some d => exact hdf
          have f8 : ∀ (j : Nat) (o' : Oper) (d : Nat), j < n → ops[j]? = some o' → o'.dst = some d → (listed.setIfInBounds i true).getD j false = true → j ∉ pl → VR g' M' (U j) ((a.put o.dst val).tmps.getD d Go.undef) := by
            intro j o' d' hj hoj hd' hlj hjq
            by_cases e : i = j
            · subst e
              rw [hoi] at hoj; cases hoj
              have hdn' := hdn d' hd'
              rw [hd']
              simp only [Act.put]
              rw [show (a.tmps.setIfInBounds d' val).getD d' Go.undef = val by simp [Array.getD, hsz, hdn']]
              exact p1
            · rw [getD_set_ne false e] at hlj
              have hput : (a.put o.dst val).tmps.getD d' Go.undef = a.tmps.getD d' Go.undef := by
                cases hdo : o.dst with
                | none => rfl
                | some d =>
                  have hne : d ≠ d' := fun e' => e (hdist hoi hin hoj hj hdo (e' ▸ hd'))
                  simp only [Act.put]
                  simp [Array.getD_eq_getD_getElem?, Array.getElem?_setIfInBounds, hne]
              rw [hput]
              exact (hh j o' d' hj hoj hd' hlj hjq).mono p4
          have f9 : ∀ t, (∀ (j : Nat) (o : Oper), j < n → ops[j]? = some o → o.dst ≠ some t) → VR g' M' (fr.get t) ((a.put o.dst val).tmps.getD t Go.undef) := by
            intro t ht
            have hput : (a.put o.dst val).tmps.getD t Go.undef = a.tmps.getD t Go.undef := by
              cases hdo : o.dst with
              | none => rfl
              | some d =>
                have hne : d ≠ t := fun e' => ht i o hin hoi (e' ▸ hdo)
                simp only [Act.put]
                simp [Array.getD_eq_getD_getElem?, Array.getElem?_setIfInBounds, hne]
            rw [hput]
            exact (ho t ht).mono p4
          obtain ⟨bf, hbf1, hbf2⟩ := hpend
          refine resume _ pl w1 M1 z1 hc1 _ _ w' g' M' m' rfl (by simpa using hls) f1 f2 (fun x hx => ⟨(hpl x hx).1, hset _ (hpl x hx).2⟩) hTr ⟨bf, fun x hx => ?_, hbf2⟩ f3 f4 (fun x hx => ?_) f5 p2 p3 f6 f7 f8 f9
          · obtain ⟨c1, c2, c3, c4, c5, c6, c7, c8⟩ := hbf1 x hx
            obtain ⟨oL, tL, dL, hoL, hopL, hbL, hzL, hgL, hdL, hdlt, hqn, hused⟩ := hflo x (hpl x hx).1
            rw [hoL] at c4
            cases c4
            rw [hdL] at c6
            cases c6
            refine ⟨c1, c2, c3, hoL, c5, hdL, ?_, c8⟩
            rw [← c7]
            cases hdo : o.dst with
            | none => rfl
            | some d =>
              have hne : d ≠ c3 := fun e' => (hused i o hoi hin fun e => hipl (e ▸ hx)).1 (e' ▸ hdo)
              simp only [Act.put]
              simp [Array.getD_eq_getD_getElem?, Array.getElem?_setIfInBounds, hne]
          · have := hmp x hx
            rw [em]
            cases effO C ops i <;> simp only [cond_true, cond_false] <;> omega
        unfold wpOp
        rw [hoi]
        simp only
        have hyield : ∀ (j : Nat) (want : Bool) (dg : Nat), o.guard = some (j, want) → (ops[j]?).bind (·.dst) = some dg → Region.wanted o (yielded ops a.tmps) = ((match a.tmps[dg]? with | some (.bool b) => some b | _ => none) == some want) := by
          intro j want dg hgd hdg
          simp only [Region.wanted, hgd, yielded, hdg, Option.bind_some]
          cases a.tmps[dg]? with
          | none => rfl
          | some x => cases x <;> rfl
        have hcE : effO C ops i = true → (bif early C (ops.toList.take n) ms i then 0 else cntE C ops (List.range i)) = m := by
          intro he
          rw [hearly hin he, cond_false]; exact hEm he
        rcases hran with ⟨fr', hfr', hev, hqt, hal, hgd⟩ | ⟨hu, hHe, j, want, dg, hgd, hdg, hskip⟩
        · have hw : Region.wanted o (yielded ops a.tmps) = true := by
            rcases hgd with hgd | ⟨j, want, dg, hgd, hdg, hφ⟩
            · simp [Region.wanted, hgd]
            · rw [hyield j want dg hgd hdg]
              have hv := hgslot j want dg hgd hdg
              rw [hφ] at hv
              generalize e : a.tmps.getD dg Go.undef = c at hv
              cases hv
              simp only [Array.getD_eq_getD_getElem?] at e
              cases e2 : a.tmps[dg]? with
              | none => rw [e2] at e; cases e
              | some x => rw [e2] at e; simp at e; rw [e]; simp
          rw [if_pos hw]
          left
          have hopd : ∀ x ∈ o.op.operands, VR g M (Fr.eval fr' x) (a.eval x) := by
            intro x hx
            cases x with
            | tmp t =>
              show VR g M (Fr.get fr' t) _
              rw [hfr' t]
              exact hslot t hx
            | const v => exact VR_ofVal g M v
            | global m => exact .undef _
            | func m => exact .fn m [] #[] .nil
          have hgo : evalOpD C o (Fr.eval fr') (Hs m) (fun v H' => v = U i ∧ H' = Hs (m + (bif effO C ops i then 1 else 0))) := by
            cases he : effO C ops i with
            | true =>
              rw [hcE he, he] at hev
              exact hev _ ⟨rfl, rfl⟩
            | false =>
              have hef := he
              rw [heff hoi] at hef
              obtain ⟨_, q2, q3⟩ := hqt hef
              simp only [cond_false, Nat.add_zero]
              cases ek : kindOf C o.op with
              | blind => exact q3 ek _ _ ⟨rfl, rfl⟩
              | reads =>
                obtain ⟨hcm, hst⟩ := hsteps ek
                generalize hcg : (bif early C (ops.toList.take n) ms i then 0 else cntE C ops (List.range i)) = c at *
                by_cases hvc : C.vw = true ∧ readOf o = none ∧ ∃ as, vcallOf C o = some as ∧ immuts (as.map frn.eval) = true
                · obtain ⟨_, _, as, has, him⟩ := hvc
                  have hmap : as.map (Fr.eval fr') = as.map frn.eval := List.map_congr_left fun y hy => by
                    cases y with
                    | tmp t =>
                      show Fr.get fr' t = Fr.get frn t
                      rw [hfr', hfin hin hoi hsp hin1 hl1n t (vcallOf_mem has hy)]
                    | const v => rfl
                    | global m => rfl
                    | func m => rfl
                  refine vcall_stay hc1.ang has (fun _ => rfl) (by rw [hmap]; exact him) (H := Hs c) ?_
                  exact hev _ ⟨rfl, by first | rfl | (rw [he]; rfl) | simp [he]⟩
                by_cases hvw : C.vw = true ∧ (readOf o).isSome = true
                · obtain ⟨hvw, hro⟩ := hvw
                  obtain ⟨x, hro⟩ := Option.isSome_iff_exists.1 hro
                  have hex : Fr.eval fr' x = frn.eval x := by
                    cases x with
                    | tmp t' =>
                      show Fr.get fr' t' = Fr.get frn t'
                      rw [hfr', hfin hin hoi hsp hin1 hl1n t' (readOf_mem hro)]
                    | const v => rfl
                    | global m => rfl
                    | func m => rfl
                  have all : ∀ d, c + d ≤ m → evalOpD C o (Fr.eval fr') (Hs (c + d)) (fun v h => v = U i ∧ h = Hs (c + d)) := by
                    intro d
                    induction d with
                    | zero => intro _; exact hev _ ⟨rfl, by first | rfl | (rw [he]; rfl) | simp [he]⟩
                    | succ d ihd =>
                      intro hd'
                      have h1 := ihd (by omega)
                      rcases hst (c + d) (Nat.le_add_right _ d) (by omega) with ⟨Y, hY⟩ | ⟨e, _⟩ | ⟨_, x', tt, e, ha, hstay⟩ | e
                      · rw [← Nat.add_assoc]
                        exact read_stay hro hvw (tt := none) rfl (by rw [hY]; exact .app _ _ _) h1
                      · rw [hvw] at e; cases e
                      · rw [hro] at e; cases e
                        rw [← Nat.add_assoc]
                        exact read_stay hro hvw (by rw [hex]; exact ha) hstay h1
                      · exact absurd e hvc
                  have h2 := all (m - c) (by omega)
                  rw [show c + (m - c) = m by omega] at h2
                  exact h2
                cases hlo : loadOf o with
                | none =>
                  have all : ∀ d, c + d ≤ m → ∃ X, Hs (c + d) = Hs c ++ X := by
                    intro d
                    induction d with
                    | zero => intro _; exact ⟨[], by rw [Nat.add_zero, List.append_nil]⟩
                    | succ d ihd =>
                      intro hd'
                      obtain ⟨X, hX⟩ := ihd (by omega)
                      rcases hst (c + d) (Nat.le_add_right _ d) (by omega) with ⟨Y, hY⟩ | ⟨_, x, id, e, _⟩ | ⟨e1, x, tt, e, _⟩ | e
                      · exact ⟨X ++ Y, by rw [← Nat.add_assoc, hY, hX, List.append_assoc]⟩
                      · rw [hlo] at e; cases e
                      · exact absurd ⟨e1, by rw [e]; rfl⟩ hvw
                      · exact absurd e hvc
                  obtain ⟨X, hX⟩ := all (m - c) (by omega)
                  rw [show c + (m - c) = m by omega] at hX
                  rw [hX]
                  exact q2 X _ ⟨rfl, rfl⟩
                | some x =>
                  obtain ⟨t, ht⟩ := loadOf_eq hlo
                  have ee : ∀ (H : Heap) (K : V → Heap → Prop), evalOpD C o (Fr.eval fr') H K = loadV C t (Fr.eval fr' x) H fun v => K v H := by
                    intro H K
                    unfold evalOpD evalOp
                    simp only [ht]
                  have hex : Fr.eval fr' x = frn.eval x := by
                    cases x with
                    | tmp t' =>
                      show Fr.get fr' t' = Fr.get frn t'
                      rw [hfr', hfin hin hoi hsp hin1 hl1n t' (by rw [ht]; simp [Op.operands])]
                    | const v => rfl
                    | global m => rfl
                    | func m => rfl
                  have all : ∀ d, c + d ≤ m → loadV C t (Fr.eval fr' x) (Hs (c + d)) (fun v => v = U i) := by
                    intro d
                    induction d with
                    | zero =>
                      intro _
                      have := hev (fun v _ => v = U i) rfl
                      rw [ee] at this
                      exact this
                    | succ d ihd =>
                      intro hd'
                      have h1 := ihd (by omega)
                      rcases hst (c + d) (Nat.le_add_right _ d) (by omega) with ⟨Y, hY⟩ | ⟨_, x', id, e, hfx, hstay⟩ | ⟨e1, x', tt, e, _⟩ | e
                      · rw [← Nat.add_assoc, hY]
                        exact loadV_ext h1
                      · rw [hlo] at e; cases e
                        rw [← Nat.add_assoc]
                        exact load_stay hstay (by rw [hex]; exact hfx) h1
                      · exact absurd ⟨e1, by rw [e]; rfl⟩ hvw
                      · exact absurd e hvc
                  have h2 := all (m - c) (by omega)
                  rw [show c + (m - c) = m by omega] at h2
                  rw [ee]
                  obtain ⟨v, h3, h4⟩ := loadV_ang t (Fr.eval fr' x) (Hs m) _ h2
                  subst h3
                  exact h4 _ ⟨rfl, rfl⟩
              | alloc => rw [ek] at hef; cases hef
              | writes => rw [ek] at hef; cases hef
          refine evalOp_sound L hc1 (evalOp_of_D hgo) hopd hr hb ?_
          rintro v H' ⟨rfl, rfl⟩ val g' M' w' p1 p2 p3 p4
          exact hnext _ val g' M' w' rfl p1 p2 p3 p4
        · have hw : Region.wanted o (yielded ops a.tmps) = false := by
            rw [hyield j want dg hgd hdg]
            have hv := hgslot j want dg hgd hdg
            rcases hskip with hφ | hφ
            · rw [hφ] at hv
              generalize e : a.tmps.getD dg Go.undef = c at hv
              cases hv
              simp only [Array.getD_eq_getD_getElem?] at e
              cases e2 : a.tmps[dg]? with
              | none => rw [e2] at e; cases e
              | some x => rw [e2] at e; simp at e; rw [e]; cases want <;> rfl
            · rw [hφ] at hv
              generalize e : a.tmps.getD dg Go.undef = c at hv
              cases hv
              simp only [Array.getD_eq_getD_getElem?] at e
              cases e2 : a.tmps[dg]? with
              | none => rfl
              | some x =>
                rw [e2] at e
                simp at e
                subst e
                rfl
          rw [if_neg (by rw [hw]; simp)]
          have hsame : Hs (m + (bif effO C ops i then 1 else 0)) = Hs m := by
            cases he : effO C ops i with
            | true => rw [hcE he, he] at hHe; exact hHe
            | false => rfl
          exact hnext _ Go.undef g M w rfl (by rw [hu]; exact .tuple [] #[] .nil) (by rw [hsame]; exact hr) (by rw [hsame]; exact hb) (Ext.refl g M)
  obtain ⟨g, M, hf, hr, hb⟩ := hg
  refine headx ops.size [] w0 M0 own0 hc _ a _ (by simp) (unl_replicate _) ?_ (fun x hx => by cases hx) ⟨Nat.le_refl _, (fun _ _ _ => rfl), (fun _ k => .inl k), (fun _ _ k => k), (fun _ _ k => .inl k), ⟨rfl, rfl, rfl⟩, (fun _ _ k => k)⟩ ⟨fun _ => 0, (fun x hx => by cases hx), (fun x hx => by cases hx)⟩ ?_ ⟨g, M, 0, Nat.zero_le _, (fun x hx => by cases hx), ?_, by rw [hHs0]; exact HR.same (w := w) (by rfl) hr, by rw [hHs0]; exact Base.same (w := w) (by rfl) (by rfl) (by rfl) (by rfl) hb, hf.size, hf.defers, ?_, fun t _ => hf.get t⟩
  · intro j hj
    by_cases h' : j < ops.size <;> simp [Array.getD_eq_getD_getElem?, h']
  · intro j o hoj hl
    exfalso
    by_cases h' : j < ops.size <;> simp [Array.getD_eq_getD_getElem?, h'] at hl
  · intro j hj he _
    constructor
    · intro hl
      exfalso
      by_cases h' : j < ops.size <;> simp [Array.getD_eq_getD_getElem?, h'] at hl
    · intro hl; omega
  · intro j o d hj hoj hd' hl
    exfalso
    by_cases h' : j < ops.size <;> simp [Array.getD_eq_getD_getElem?, h'] at hl
end
end Go.Ev

/- Code as a whole, and functions. -/
set_option linter.unusedVariables false
set_option linter.unusedSimpArgs false
namespace Go.Ev

def Ex.out : Ex → Exit
  | .normal => .normal
  | .ret => .ret
  | .exit id => .exit id

section
variable {P : Program} {C : Ctx} {w0 : World} {M0 : Mem} {own0 : Z}

def CodeOk (P : Program) (C : Ctx) (w0 : World) (M0 : Mem) (own0 : Z) (c : Code) : Prop :=
  ∀ (fr : Fr) (H : Heap) (K : Ex → Fr → Heap → Prop) (a : Act) (w : World) (Q : Exit → Act → World → Prop), wpE C c fr H K → Good C w0 M0 own0 fr H a w →
    (∀ e fr' H', K e fr' H' → ∀ a' w', Good C w0 M0 own0 fr' H' a' w' → Q e.out a' w') → c.wp P Q a w

theorem loop_sound {body : Code} (hb : CodeOk P C w0 M0 own0 body) (ann : Option Ann) (hz : ∀ an, ann = some an → own0.n ≤ an.keep) {n : Nat} {fr : Fr} {H : Heap} {K : Ex → Fr → Heap → Prop} {a : Act} {w : World} {Q : Exit → Act → World → Prop}
    (h : loopN (wpE C body) ann n fr H K) (hg : Good C w0 M0 own0 fr H a w) (hq : ∀ e fr' H', K e fr' H' → ∀ a' w', Good C w0 M0 own0 fr' H' a' w' → Q e.out a' w') : (Code.loop body).wp P Q a w := by
  refine wp_loop_n (fun n a w => ∃ fr H, loopN (wpE C body) ann n fr H K ∧ Good C w0 M0 own0 fr H a w) ?_ ⟨fr, H, h, hg⟩
  rintro n a w ⟨fr, H, h, hg⟩
  cases n with
  | zero => exact h.elim
  | succ n =>
    refine hb fr H _ a w _ h hg ?_
    intro e fr' H' hk a' w' hg'
    cases e with
    | normal =>
      cases ann with
      | none => exact ⟨n, by omega, fr', H', hk, hg'⟩
      | some an => exact ⟨n, by omega, _, _, hk, norm_good (hz an rfl) hg'⟩
    | ret => exact hq .ret fr' H' hk a' w' hg'
    | exit id => exact hq (.exit id) fr' H' hk a' w' hg'

theorem good_drawn {fr : Fr} {H : Heap} {a : Act} {w : World} (h : Good C w0 M0 own0 fr H a w) : Good C.drawn w0 M0 own0 fr H a w := by
  obtain ⟨g, M, hf, hr, hb⟩ := h
  exact ⟨g, M, ⟨hf.get, hf.size, hf.defers⟩, hr, hb⟩
theorem good_drawn' {fr : Fr} {H : Heap} {a : Act} {w : World} (h : Good C.drawn w0 M0 own0 fr H a w) : Good C w0 M0 own0 fr H a w := by
  obtain ⟨g, M, hf, hr, hb⟩ := h
  exact ⟨g, M, ⟨hf.get, hf.size, hf.defers⟩, hr, hb⟩
theorem wpE_sound (L : LOk P C) (hc : CallsOk P C M0 own0) (hm : P.follows .mixedOrders = true) (hz : own0.n ≤ C.base) : ∀ c, CodeOk P C w0 M0 own0 c := by
  intro c
  induction c with
  | skip => intro fr H K a w Q h hg hq; exact wp_skip (hq .normal fr H h a w hg)
  | ret => intro fr H K a w Q h hg hq; exact wp_ret (hq .ret fr H h a w hg)
  | exit id => intro fr H K a w Q h hg hq; exact wp_exit (hq (.exit id) fr H h a w hg)
  | seq x y ihx ihy =>
    intro fr H K a w Q h hg hq
    refine wp_seq (ihx fr H _ a w _ h hg ?_)
    intro e fr' H' hk a' w' hg'
    cases e with
    | normal => exact ihy fr' H' K a' w' Q hk hg' hq
    | ret => exact hq .ret fr' H' hk a' w' hg'
    | exit id => exact hq (.exit id) fr' H' hk a' w' hg'
  | cond c x y ihx ihy =>
    intro fr H K a w Q h hg hq
    simp only [wpE] at h
    split at h
    · rename_i t ht
      have hcv : a.eval c = .bool t := by
        obtain ⟨g, M, hf, _, _⟩ := hg
        have := hf.eval c
        rw [ht] at this
        generalize a.eval c = v at this
        cases this
        rfl
      refine wp_cond hcv ?_
      cases t with
      | true => exact ihx fr H K a w Q h hg hq
      | false => exact ihy fr H K a w Q h hg hq
    · exact h.elim
  | block id x ih =>
    intro fr H K a w Q h hg hq
    refine wp_block (ih fr H _ a w _ h hg ?_)
    intro e fr' H' hk a' w' hg'
    cases e with
    | normal => exact hq .normal fr' H' hk a' w' hg'
    | ret => exact hq .ret fr' H' hk a' w' hg'
    | exit id' =>
      simp only at hk
      show Exit.inBlock id Q (.exit id') a' w'
      simp only [Exit.inBlock]
      cases e : Nat.beq id' id with
      | true =>
        simp only [e, cond_true] at hk
        rw [if_pos (beq_true e)]
        exact hq .normal fr' H' hk a' w' hg'
      | false =>
        simp only [e, cond_false] at hk
        rw [if_neg (beq_false e)]
        exact hq (.exit id') fr' H' hk a' w' hg'
  | loop body ih =>
    intro fr H K a w Q h hg hq
    simp only [wpE] at h
    split at h
    · obtain ⟨n, h⟩ := h
      exact loop_sound ih none (fun _ e => by cases e) h hg hq
    · rename_i an _
      cases hk : Nat.ble C.base an.keep with
      | false => simp only [hk, cond_false] at h
      | true =>
        simp only [hk, cond_true] at h
        obtain ⟨n, h⟩ := h
        have hz' : own0.n ≤ an.keep := Nat.le_trans hz (Nat.le_of_ble_eq_true hk)
        exact loop_sound ih (some an) (fun _ e => by cases e; exact hz') h (norm_good hz' hg) hq
  | region id ops draw =>
    intro fr H K a w Q h hg hq
    cases draw with
    | true =>
      simp only [wpE, cond_true] at h
      cases hd : drawOk C.drawn ops.toList (masksOf ops.toList []) (tailFrom ops.toList) with
      | false =>
        cases hd2 : (C.mv && drawOkF C.drawn ops.toList (masksOf ops.toList []) (tailFrom ops.toList)) with
        | false => simp only [hd, hd2, Bool.or_false, cond_false] at h
        | true =>
          simp only [hd, hd2, Bool.or_true, cond_true] at h
          simp only [Bool.and_eq_true] at hd2
          exact draw_float (C := C.drawn) L hc.drawn hm hd2.2 h (good_drawn hg) fun fr' H' hk a' w' hg' => hq .normal fr' H' hk a' w' (good_drawn' hg')
      | true =>
        simp only [hd, Bool.true_or, cond_true] at h
        exact draw_float (C := C.drawn) L hc.drawn hm (drawOkF_of hd) h (good_drawn hg) fun fr' H' hk a' w' hg' => hq .normal fr' H' hk a' w' (good_drawn' hg')
    | false =>
      simp only [wpE, cond_false] at h
      exact wp_region_list (evalOps_sound L hc ops _ fr H _ a w h hg fun fr' H' hk a' w' hg' => hq .normal fr' H' hk a' w' hg')
  | _ => intro fr H K a w Q h; exact h.elim

theorem put_ang (fr : Fr) (d : Option Nat) (v : V) : Ang1 (fun K => put C fr d v K) := by
  cases d with
  | none => exact ang1_pure _
  | some d => exact ang1_cond _ (ang1_pure _) ang1_false

theorem evalOps_ang (hc : CallAng C) (ops : Array Oper) : ∀ (l : List Oper) (fr : Fr) (H : Heap), Ang2 (fun K => evalOps C ops l fr H K) := by
  intro l
  induction l with
  | nil => intro fr H K h; exact ⟨fr, H, h, fun _ h => h⟩
  | cons o l ih =>
    intro fr H
    have run : ∀ fr1, Ang2 (fun K => evalOp C o (Fr.eval fr1) H fun v H' => put C fr1 o.dst v fun fr' => evalOps C ops l fr' H' K) := by
      intro fr1 K h
      obtain ⟨v, H', h1, _, h2⟩ := evalOp_ang hc o _ (fun _ => rfl) H _ h
      obtain ⟨fr', h3, h4⟩ := put_ang fr1 o.dst v _ h1
      obtain ⟨fr'', H'', h5, h6⟩ := ih fr' H' K h3
      exact ⟨fr'', H'', h5, fun K' h' => h2 _ (h4 _ (h6 K' h'))⟩
    have skip : ∀ fr1, Ang2 (fun K => put C fr1 o.dst (.tuple []) fun fr' => evalOps C ops l fr' H K) := by
      intro fr1 K h
      obtain ⟨fr', h3, h4⟩ := put_ang fr1 o.dst (.tuple []) _ h
      obtain ⟨fr'', H'', h5, h6⟩ := ih fr' H K h3
      exact ⟨fr'', H'', h5, fun K' h' => h4 _ (h6 K' h')⟩
    simp only [evalOps]
    split
    · exact run fr
    · split
      · exact fun K h => h.elim
      · split
        · rename_i j want _ _ d _ _ b _
          cases want <;> cases b
          · exact run _
          · exact skip _
          · exact skip _
          · exact run _
        · exact skip fr
        · exact fun K h => h.elim

theorem evalOpsD_ang (hc : CallAng C) (ops : Array Oper) : ∀ (l : List Oper) (fr : Fr) (H : Heap), Ang2 (fun K => evalOpsD C ops l fr H K) := by
  intro l
  induction l with
  | nil => intro fr H K h; exact ⟨fr, H, h, fun _ h => h⟩
  | cons o l ih =>
    intro fr H
    have run : ∀ fr1, Ang2 (fun K => evalOpD C o (Fr.eval fr1) H fun v H' => put C fr1 o.dst v fun fr' => evalOpsD C ops l fr' H' K) := by
      intro fr1 K h
      obtain ⟨v, H', h1, h2, _⟩ := eff_D hc o _ (fun _ => rfl) H _ h
      obtain ⟨fr', h3, h4⟩ := put_ang fr1 o.dst v _ h1
      obtain ⟨fr'', H'', h5, h6⟩ := ih fr' H' K h3
      exact ⟨fr'', H'', h5, fun K' h' => h2 _ (h4 _ (h6 K' h'))⟩
    have skip : ∀ fr1, Ang2 (fun K => put C fr1 o.dst (.tuple []) fun fr' => evalOpsD C ops l fr' H K) := by
      intro fr1 K h
      obtain ⟨fr', h3, h4⟩ := put_ang fr1 o.dst (.tuple []) _ h
      obtain ⟨fr'', H'', h5, h6⟩ := ih fr' H K h3
      exact ⟨fr'', H'', h5, fun K' h' => h4 _ (h6 K' h')⟩
    simp only [evalOpsD]
    split
    · exact run fr
    · split
      · exact fun K h => h.elim
      · split
        · rename_i j want _ _ d _ _ b _
          cases want <;> cases b
          · exact run _
          · exact skip _
          · exact skip _
          · exact run _
        · exact skip fr
        · exact fun K h => h.elim

theorem loopN_ang {step : Fr → Heap → (Ex → Fr → Heap → Prop) → Prop} (hs : ∀ fr H, Ang3 (step fr H)) (ann : Option Ann) : ∀ n fr H, Ang3 (fun K => loopN step ann n fr H K) := by
  intro n
  induction n with
  | zero => intro fr H K h; exact h.elim
  | succ n ih =>
    intro fr H K h
    simp only [loopN] at h
    obtain ⟨e, fr', H', h1, h2⟩ := hs fr H _ h
    cases e with
    | normal =>
      cases ann with
      | none =>
        obtain ⟨e2, fr2, H2, h3, h4⟩ := ih fr' H' K h1
        exact ⟨e2, fr2, H2, h3, fun K' h' => h2 _ (h4 K' h')⟩
      | some an =>
        obtain ⟨e2, fr2, H2, h3, h4⟩ := ih _ _ K h1
        exact ⟨e2, fr2, H2, h3, fun K' h' => h2 _ (h4 K' h')⟩
    | ret => exact ⟨.ret, fr', H', h1, fun K' h' => h2 _ h'⟩
    | exit id => exact ⟨.exit id, fr', H', h1, fun K' h' => h2 _ h'⟩

theorem wpE_ang (hc : CallAng C) (hd : CallAng C.drawn) : ∀ (c : Code) (fr : Fr) (H : Heap), Ang3 (fun K => wpE C c fr H K) := by
  intro c
  induction c with
  | skip => intro fr H K h; exact ⟨_, _, _, h, fun _ h => h⟩
  | ret => intro fr H K h; exact ⟨_, _, _, h, fun _ h => h⟩
  | exit id => intro fr H K h; exact ⟨_, _, _, h, fun _ h => h⟩
  | seq x y ihx ihy =>
    intro fr H K h
    simp only [wpE] at h
    obtain ⟨e, fr', H', h1, h2⟩ := ihx fr H _ h
    cases e with
    | normal =>
      obtain ⟨e2, fr2, H2, h3, h4⟩ := ihy fr' H' K h1
      exact ⟨e2, fr2, H2, h3, fun K' h' => h2 _ (h4 K' h')⟩
    | ret => exact ⟨.ret, fr', H', h1, fun K' h' => h2 _ h'⟩
    | exit id => exact ⟨.exit id, fr', H', h1, fun K' h' => h2 _ h'⟩
  | cond c x y ihx ihy =>
    intro fr H
    simp only [wpE]
    split
    · rename_i t _
      cases t
      · exact ihy fr H
      · exact ihx fr H
    · exact fun K h => h.elim
  | block id x ih =>
    intro fr H K h
    simp only [wpE] at h
    obtain ⟨e, fr', H', h1, h2⟩ := ih fr H _ h
    cases e with
    | normal => exact ⟨.normal, fr', H', h1, fun K' h' => h2 _ h'⟩
    | ret => exact ⟨.ret, fr', H', h1, fun K' h' => h2 _ h'⟩
    | exit id' =>
      simp only at h1
      cases e : Nat.beq id' id with
      | true =>
        simp only [e, cond_true] at h1
        exact ⟨.normal, fr', H', h1, fun K' h' => h2 _ (by simp only [e, cond_true]; exact h')⟩
      | false =>
        simp only [e, cond_false] at h1
        exact ⟨.exit id', fr', H', h1, fun K' h' => h2 _ (by simp only [e, cond_false]; exact h')⟩
  | loop body ih =>
    intro fr H
    simp only [wpE]
    split
    · rintro K ⟨n, h⟩
      obtain ⟨e, fr', H', h1, h2⟩ := loopN_ang ih none n fr H K h
      exact ⟨e, fr', H', h1, fun K' h' => ⟨n, h2 K' h'⟩⟩
    · rename_i an _
      cases hk : Nat.ble C.base an.keep with
      | false => exact fun K h => h.elim
      | true =>
        simp only [cond_true]
        rintro K ⟨n, h⟩
        obtain ⟨e, fr', H', h1, h2⟩ := loopN_ang ih (some an) n _ _ K h
        exact ⟨e, fr', H', h1, fun K' h' => ⟨n, h2 K' h'⟩⟩
  | region id ops draw =>
    intro fr H
    have key : Ang3 (fun K : Ex → Fr → Heap → Prop => evalOps C ops ops.toList fr H fun fr' H' => K .normal fr' H') := by
      intro K h
      obtain ⟨fr', H', h1, h2⟩ := evalOps_ang hc ops _ fr H _ h
      exact ⟨.normal, fr', H', h1, fun K' h' => h2 _ h'⟩
    cases draw with
    | true =>
      simp only [wpE, cond_true]
      cases (drawOk C.drawn ops.toList (masksOf ops.toList []) (tailFrom ops.toList) || (C.mv && drawOkF C.drawn ops.toList (masksOf ops.toList []) (tailFrom ops.toList))) with
      | true =>
        simp only [cond_true]
        intro K h
        obtain ⟨fr1, H1, h1, h2⟩ := evalOpsD_ang hd ops _ fr H _ h
        cases hfo : farOk C.drawn (ops.toList.take (tailFrom ops.toList)) (masksOf ops.toList []) fr1 with
        | false => simp only [hfo, cond_false] at h1
        | true =>
          simp only [hfo, cond_true] at h1
          obtain ⟨fr', H', h3, h4⟩ := evalOps_ang hd ops _ fr1 H1 _ h1
          exact ⟨.normal, fr', H', h3, fun K' h' => h2 _ (by simp only [hfo, cond_true]; exact h4 _ h')⟩
      | false => exact fun K h => h.elim
    | false =>
      simp only [wpE, cond_false]
      exact key
  | _ => intro fr H K h; exact h.elim

theorem resV_ang (fr : Fr) (H : Heap) : ∀ (l : List ResultVar), Ang1 (fun K => resV C fr H l K) := by
  intro l
  induction l with
  | nil => exact ang1_pure _
  | cons r l ih =>
    cases r with
    | tmp t =>
      intro K h
      simp only [resV] at h
      obtain ⟨vs, h1, h2⟩ := ih _ h
      exact ⟨_, h1, fun K' h' => h2 _ h'⟩
    | cell t ty =>
      intro K h
      simp only [resV] at h
      obtain ⟨v, h1, h2⟩ := loadV_ang ty _ H _ h
      obtain ⟨vs, h3, h4⟩ := ih _ h1
      exact ⟨_, h3, fun K' h' => h2 _ (h4 _ h')⟩

theorem outV_ang (H : Heap) (vs : List V) {K : V → Heap → Prop} (h : outV 0 H vs K) : ∃ v, K v [] ∧ ∀ K' : V → Heap → Prop, K' v [] → outV 0 H vs K' := by
  unfold outV at h ⊢
  cases hs : shuts 0 H vs with
  | none => rw [hs] at h; exact h.elim
  | some vs' =>
    rw [hs] at h
    match vs', h with
    | [], h => exact ⟨_, h, fun _ h => h⟩
    | [v], h => exact ⟨_, h, fun _ h => h⟩
    | v :: u :: r, h => exact ⟨_, h, fun _ h => h⟩

theorem wpFn_ang (hc : CallAng C) (hd : CallAng C.drawn) (fn : Func) (args : List V) {K : V → Heap → Prop} (h : wpFn C fn args [] K) : ∃ v, K v [] ∧ ∀ K' : V → Heap → Prop, K' v [] → wpFn C fn args [] K' := by
  unfold wpFn at h
  cases hb : fn.body with
  | none => simp only [hb] at h
  | some body =>
    simp only [hb] at h
    cases hq : (Nat.ble args.length fn.ntmps && Nat.beq fn.ntmps C.ntmps) with
    | false => simp only [hq, cond_false] at h
    | true =>
      simp only [hq, cond_true] at h
      obtain ⟨e, fr, H, h1, h2⟩ := wpE_ang hc hd body _ _ _ h
      have hle : Nat.ble (List.length ([] : Heap)) H.length = true := Nat.ble_eq_true_of_le (Nat.zero_le _)
      cases e with
      | exit id => exact h1.elim
      | normal =>
        simp only [hle, cond_true] at h1
        obtain ⟨vs, h3, h4⟩ := resV_ang fr H _ _ h1
        obtain ⟨v, h5, h6⟩ := outV_ang H vs h3
        refine ⟨v, h5, fun K' h' => ?_⟩
        unfold wpFn
        simp only [hb, hq, cond_true]
        refine h2 _ ?_
        simp only [hle, cond_true]
        exact h4 _ (h6 K' h')
      | ret =>
        simp only [hle, cond_true] at h1
        obtain ⟨vs, h3, h4⟩ := resV_ang fr H _ _ h1
        obtain ⟨v, h5, h6⟩ := outV_ang H vs h3
        refine ⟨v, h5, fun K' h' => ?_⟩
        unfold wpFn
        simp only [hb, hq, cond_true]
        refine h2 _ ?_
        simp only [hle, cond_true]
        exact h4 _ (h6 K' h')

theorem paramsFr_get : ∀ (vs : List V) (i t : Nat), Fr.get (paramsFr i vs) t = if i ≤ t then (vs[t - i]?).getD .undef else .undef
  | [], i, t => by simp [paramsFr, Fr.get]
  | v :: vs, i, t => by
    simp only [paramsFr, Fr.get]
    rw [paramsFr_get vs (i + 1) t]
    cases e : Nat.beq i t with
    | true =>
      have := beq_true e
      subst this
      simp
    | false =>
      have := beq_false e
      simp only [cond_false]
      by_cases h : i ≤ t
      · rw [if_pos h, if_pos (by omega)]
        rw [show t - i = (t - (i + 1)) + 1 by omega]
        simp
      · rw [if_neg h, if_neg (by omega)]

theorem shut1_sound {g : List G} {M : Mem} {w : World} {H : Heap} (hr : HR H g M w) {v v' : V} {c : Value} (hv : VR g M v c) (h : shut1 0 H v = some v') : VR [] (memAll H g M w) v' c := by
  have other : ∀ {u : V}, u = v → (bif immut u then some u else none) = some v' → VR [] (memAll H g M w) v' c := by
    rintro u rfl h
    cases hi : immut u with
    | true =>
      simp only [hi, cond_true, Option.some.injEq] at h
      subst h
      exact (hv.mono (Ext.mem (memAll_le H g M w))).imm hi
    | false => simp only [hi, cond_false] at h; cases h
  cases v <;> simp only [shut1] at h <;> try exact other rfl h
  case obj id ver =>
    have h0 : Nat.blt id 0 = false := by cases id <;> rfl
    simp only [h0, cond_false] at h
    exact view1_sound hr hv (by simpa only [view1] using h)
  case dob id ver =>
    have h0 : Nat.blt id 0 = false := by cases id <;> rfl
    simp only [h0, cond_false] at h
    exact view1_sound hr hv (by simpa only [view1] using h)

theorem shuts1_sound {g : List G} {M : Mem} {w : World} {H : Heap} (hr : HR H g M w) : ∀ {vs vs' : List V} {cs : List Value}, VRs g M vs cs → shuts1 0 H vs = some vs' → VRs [] (memAll H g M w) vs' cs
  | _, _, _, .nil, h => by simp only [shuts1, Option.some.injEq] at h; subst h; exact .nil
  | _, _, _, .cons hv hs, h => by
    simp only [shuts1] at h
    split at h
    · rename_i v' h1
      split at h
      · rename_i vs' h2
        cases h
        exact .cons (shut1_sound hr hv h1) (shuts1_sound hr hs h2)
      · cases h
    · cases h

theorem shut_sound {g : List G} {M : Mem} {w : World} {H : Heap} (hr : HR H g M w) {v v' : V} {c : Value} (hv : VR g M v c) (h : shut 0 H v = some v') : VR [] (memAll H g M w) v' c := by
  cases v <;> simp only [shut] at h <;> try exact shut1_sound hr hv h
  case agg vs =>
    split at h
    · rename_i vs' h1
      cases h
      cases hv with
      | agg _ cs hvs => exact .agg _ cs (shuts1_sound hr hvs h1)
    · cases h

theorem shuts_sound {g : List G} {M : Mem} {w : World} {H : Heap} (hr : HR H g M w) : ∀ {vs vs' : List V} {cs : List Value}, VRs g M vs cs → shuts 0 H vs = some vs' → VRs [] (memAll H g M w) vs' cs
  | _, _, _, .nil, h => by simp only [shuts, Option.some.injEq] at h; subst h; exact .nil
  | _, _, _, .cons hv hs, h => by
    simp only [shuts] at h
    split at h
    · rename_i v' h1
      split at h
      · rename_i vs' h2
        cases h
        exact .cons (shut_sound hr hv h1) (shuts_sound hr hs h2)
      · cases h
    · cases h

theorem mapM_results (P : Program) (w : World) (f : ResultVar → Sem Value) : ∀ (l : List ResultVar) (vs : List Value), List.length l = vs.length →
    (∀ (i : Nat) (r : ResultVar) (v : Value), l[i]? = some r → vs[i]? = some v → (f r).run P w = .ok v w) → (l.mapM f).run P w = .ok vs w
  | [], [], _, _ => rfl
  | r :: l, v :: vs, hl, h => by
    have h0 := h 0 r v rfl rfl
    have ih := mapM_results P w f l vs (by simpa using hl) fun i r v h1 h2 => h (i + 1) r v (by simpa using h1) (by simpa using h2)
    simp [List.mapM_cons, h0, ih]
  | [], v :: vs, hl, _ => by simp at hl
  | r :: l, [], hl, _ => by simp at hl

def resOne (a : Act) : ResultVar → Sem Value
  | .tmp t => Pure.pure (a.tmps.getD t Go.undef)
  | .cell t ty => do loadVar ty (← asAddr (a.tmps.getD t Go.undef))

theorem run_resV (L : LOk P C) {g : List G} {M : Mem} {w : World} {H : Heap} {fr : Fr} {a : Act} (hf : FR C g M fr a) (hr : HR H g M w) : ∀ (l : List ResultVar) (K : List V → Prop), resV C fr H l K →
    ∃ vs vals, K vs ∧ VRs g M vs vals ∧ List.length l = vals.length ∧
      (∀ (i : Nat) (r : ResultVar) (v : Value), l[i]? = some r → vals[i]? = some v → (resOne a r).run P w = .ok v w) := by
  intro l
  induction l with
  | nil => intro K h; exact ⟨[], [], h, .nil, rfl, by simp⟩
  | cons r l ih =>
    intro K h
    cases r with
    | tmp t =>
      simp only [resV] at h
      obtain ⟨vs, vals, h1, h2, h3, h4⟩ := ih _ h
      refine ⟨_, _, h1, .cons (hf.get t) h2, by simp [h3], ?_⟩
      intro i r v hi hv
      cases i with
      | zero => simp at hi hv; subst hi; subst hv; simp [resOne]
      | succ i => exact h4 i r v (by simpa using hi) (by simpa using hv)
    | cell t ty =>
      simp only [resV] at h
      have hx := hf.get t
      obtain ⟨v, val, k1, k2, k3⟩ := loadV_sound (P := P) L hx hr h
      obtain ⟨vs, vals, h1, h2, h3, h4⟩ := ih _ k1
      refine ⟨_, _, h1, .cons k2 h2, by simp [h3], ?_⟩
      intro i r u hi hv
      cases i with
      | zero =>
        simp at hi hv; subst hi; subst hv
        simp only [resOne]
        generalize a.tmps.getD t Go.undef = c at k3
        cases c with
        | pointer ad =>
          cases ad with
          | some ad => simpa [Instr.loadAt, Instr.sureAddr, asAddr] using k3
          | none => simp [Instr.loadAt, Instr.sureAddr] at k3
        | _ => simp [Instr.loadAt, Instr.sureAddr] at k3
      | succ i => exact h4 i r u (by simpa using hi) (by simpa using hv)

theorem run_results {fn : Func} {a : Act} {w : World} {vals : List Value} (hl : fn.results.toList.length = vals.length)
    (h : ∀ (i : Nat) (r : ResultVar) (v : Value), fn.results.toList[i]? = some r → vals[i]? = some v → (resOne a r).run P w = .ok v w) :
    (results fn a.tmps).run P w = .ok (if h : vals.toArray.size = 1 then vals.toArray[0] else .tuple vals.toArray) w := by
  have key := mapM_results P w (resOne a) fn.results.toList vals hl h
  unfold results
  rw [Array.mapM_eq_mapM_toList]
  have e : (fun x => match x with | ResultVar.tmp t => Pure.pure (a.tmps.getD t Go.undef) | ResultVar.cell a_1 t => do loadVar t (← asAddr (a.tmps.getD a_1 Go.undef)) : ResultVar → Sem Value) = resOne a := by
    funext r; cases r <;> rfl
  simp only [Sem.run_bind, Sem.run_map]
  erw [e]
  rw [key]
  rfl

theorem fnOk_of_wpFn (L : LOk P C) (hc : CallsOk0 P C) (hm : P.follows .mixedOrders = true) {k : FuncId} {fn : Func} (hf : P.funcs[k]? = some fn) (hn : (fn.name == "runtime.NumGoroutine") = false) : FnOk P k (wpFn C fn) := by
  intro args K h
  obtain ⟨v, h1, h2⟩ := wpFn_ang hc.ang hc.drawn.ang fn args h
  refine ⟨v, h1, h2, ?_⟩
  intro w M cargs ha hmem hG
  have hw := h2 (fun u hs => u = v ∧ hs = []) ⟨rfl, rfl⟩
  unfold wpFn at hw
  cases hb : fn.body with
  | none => simp only [hb] at hw
  | some body =>
    simp only [hb] at hw
    cases hq : (Nat.ble args.length fn.ntmps && Nat.beq fn.ntmps C.ntmps) with
    | false => simp only [hq, cond_false] at hw
    | true =>
      simp only [hq, cond_true] at hw
      simp only [Bool.and_eq_true] at hq
      have q1 := Nat.le_of_ble_eq_true hq.1
      have q2 := beq_true hq.2
      have hlen := ha.length
      refine .inr ⟨?_, ?_⟩
      · have hn' : ¬ fn.name = "runtime.NumGoroutine" := by simpa using hn
        simp [callFunc, hf, hn', hb]
      · refine calls_of_wp hf hb ?_
        refine wpE_sound (w0 := w) (M0 := M) (own0 := Z.no) L ⟨hG, hc, Nat.zero_le _⟩ hm (Nat.zero_le _) body _ _ _ _ w _ hw ?_ ?_
        · refine ⟨[], M, ⟨fun t => ?_, ?_, rfl⟩, ⟨rfl, by simp, by simp, hmem⟩, ⟨Nat.le_refl _, fun _ _ _ => rfl, ?_, fun _ _ h => h, fun _ _ h => .inl h, rfl, rfl, rfl, fun _ _ h => h.elim⟩⟩
          · rw [paramsFr_get, if_pos (Nat.zero_le _)]
            simp only [Nat.sub_zero]
            cases e : args[t]? with
            | none => exact .undef _
            | some u =>
              obtain ⟨c, hc1, hc2⟩ := ha.get e
              have : (cargs.toArray ++ Array.replicate (fn.ntmps - cargs.toArray.size) Go.undef).getD t Go.undef = c := by
                have hlt := lt_of_get hc1
                simp only [Array.getD_eq_getD_getElem?]
                rw [Array.getElem?_append_left (by simpa using hlt)]
                simp [hc1]
              rw [this]
              exact hc2
          · simp
            omega
          · rintro b ⟨id, o, x, h1, _⟩
            simp at h1
        · rintro e fr' H' hk a' w' ⟨g, M', hfr, hr, hbase⟩
          have hle : Nat.ble (List.length ([] : Heap)) H'.length = true := Nat.ble_eq_true_of_le (Nat.zero_le _)
          have fin : (resV C fr' H' fn.results.toList fun vs => outV 0 H' vs fun u hs => u = v ∧ hs = []) → a'.defers = [] ∧ ∃ u, (results fn a'.tmps).run P w' = .ok u w' ∧
              ∃ u', Ending.returned u = .returned u' ∧ ∃ M', VR [] M' v u' ∧ MemOk M' w' ∧ Frame0 w w' M M' := by
            intro hres
            obtain ⟨vs, vals, p1, p2, p3, p4⟩ := run_resV L hfr hr _ _ hres
            refine ⟨hfr.defers, _, run_results p3 p4, _, rfl, memAll H' g M' w', ?_, memAll_ok hr, ?_⟩
            · unfold outV at p1
              cases hs : shuts 0 H' vs with
              | none => rw [hs] at p1; exact p1.elim
              | some vs' =>
                rw [hs] at p1
                have hv := shuts_sound hr p2 hs
                match vs', p1, hv with
                | [], p1, hv =>
                  cases hv
                  obtain ⟨rfl, _⟩ := p1
                  exact .tuple [] #[] .nil
                | [u], p1, hv =>
                  obtain ⟨rfl, _⟩ := p1
                  cases hv with
                  | cons hc ht =>
                    cases ht
                    exact hc
                | x :: y :: r, p1, hv =>
                  obtain ⟨rfl, _⟩ := p1
                  have hl := hv.length
                  rw [dif_neg (by simp at hl ⊢; omega)]
                  exact .tuple _ _ (by simpa using hv)
            · refine ⟨hbase.size, fun b hb' => hbase.keep b hb' id, fun b cs hb' => memAll_le H' g M' w' b cs (hbase.mle b cs hb'), ?_, hbase.os, hbase.tape, hbase.output⟩
              intro b cs hb'
              unfold memAll at hb'
              split at hb'
              · rename_i cs' hm'
                cases hb'
                rcases hbase.mnew b _ hm' with k | k | k
                · exact .inl k
                · exact k.elim
                · exact .inr k
              · split at hb'
                · rename_i ho
                  rcases hbase.own b ho with k | k
                  · exact k.elim
                  · exact .inr k
                · cases hb'
          cases e with
          | exit id => exact hk.elim
          | normal =>
            simp only [hle, cond_true] at hk
            exact fin hk
          | ret =>
            simp only [hle, cond_true] at hk
            exact fin hk
end
end Go.Ev

