/- Addresses, parts and new things. -/
import Derived.Test.YtfdalaakechldaaEvMem
set_option linter.unusedVariables false
set_option linter.unusedSimpArgs false
namespace Go.Ev

section
variable {P : Program} {C : Ctx} {g : List G} {M : Mem} {w : World} {H : Heap} {K : V → Prop}

theorem run_fieldPlace {b o : Nat} {f : Field} {i : TI} (F : Facts P f.type i) (hz : i.size ≠ 0) : (fieldPlace ⟨b, o, none⟩ f).run P w = .ok ⟨b, o + f.offset, none⟩ w := by
  simp only [fieldPlace, Sem.run_bind, F.run_sizeOf, Result.andThen_ok, hz, if_false, Addr.add_lit, Sem.run_pure]

theorem fieldAddrV_sound (L : LOk P C) {s : TypeId} {x : V} {c : Value} (hx : VR g M x c) {f : Nat} (h : fieldAddrV C s x f K) : SemOk P g M w (Instr.fieldAt s c f) K := by
  unfold fieldAddrV at h
  split at h
  · rename_i fields hd
    have F := (L.get (t := s) (.inl (by rw [hd]; simp))).under
    rw [hd] at F
    split at h
    · rename_i fd hf
      cases hz : Nat.beq (C.ti fd.type).size 0 with
      | true => simp [hz] at h
      | false =>
        simp only [hz, cond_false] at h
        have Ff := L.get (t := fd.type) (.inr (beq_false hz))
        have run : ∀ b o, c = .pointer (some ⟨b, o, none⟩) → (Instr.fieldAt s c f).run P w = .ok (.pointer (some ⟨b, o + fd.offset, none⟩)) w := by
          intro b o e
          subst e
          simp only [Instr.fieldAt, Sem.run_bind, Go.run_underlying F, Result.andThen_ok, hf, Instr.sureAddr, Sem.run_pure, run_fieldPlace Ff (beq_false hz)]
        cases hx <;> simp only at h <;> try exact h.elim
        case ref cells b base off o cs h1 h2 h3 => exact .pure h (.ref cells b base _ _ cs h1 h2 (by omega)) (run b o rfl)
        case ptr id off b h1 => exact .pure h (.ptr id _ b h1) (run b off rfl)
        case eptr id ver ver' sz i off b o hh h1 h2 h3 h4 => exact .pure h (.eptr id ver ver' sz i _ b _ hh h1 h2 h3 (by omega)) (run b o rfl)
        case dep id ver ver' iv sz i off b o bs ih hh h1 h2 h3 h4 => exact .pure h (.dep id ver ver' iv sz i _ b _ bs ih hh h1 h2 h3 (by omega)) (run b o rfl)
    · exact h.elim
  · exact h.elim

theorem run_part {t : TypeId} {i : TI} (F : Facts P t i) {vs : List V} {ce : Array Value} {off : Nat} (hv : VRs g M vs (ce.toList.drop off)) {K : V → Prop} (hk : readV i vs K) :
    SemOk P g M w (part t ce off) K := by
  have hlen := hv.length
  unfold readV at hk
  cases ha : i.agg with
  | true =>
    simp only [ha, cond_true] at hk
    cases hs : Nat.ble i.size vs.length with
    | false => simp [hs] at hk
    | true =>
      simp only [hs, cond_true] at hk
      refine .pure hk (.agg _ (ce.extract off (off + i.size)) ?_) ?_
      · have := hv.take i.size
        simpa [List.extract_eq_take_drop] using this
      · simp [part, F.run_isAgg, ha, F.run_sizeOf]
  | false =>
    simp only [ha, cond_false] at hk
    cases hz : Nat.beq i.size 0 with
    | true => simp [hz] at hk
    | false =>
      simp only [hz, cond_false] at hk
      cases vs with
      | nil => simp at hk
      | cons v vs =>
        obtain ⟨x, hx, hr⟩ := hv.get (i := 0) (v := v) (by simp)
        simp at hx
        refine .pure hk hr ?_
        simp [part, F.run_isAgg, ha, hx]

theorem fieldV_sound (L : LOk P C) {s : TypeId} {x : V} {c : Value} (hx : VR g M x c) {f : Nat} (h : fieldV C s x f K) : SemOk P g M w (Instr.field s c f) K := by
  unfold fieldV at h
  split at h
  · rename_i fields hd
    have F := (L.get (t := s) (.inl (by rw [hd]; simp))).under
    rw [hd] at F
    split at h
    · rename_i fd hf
      cases hx <;> simp only at h <;> try exact h.elim
      case agg vs cs hv =>
        obtain ⟨v, val, w', k1, k2, k3, k4⟩ := run_part (P := P) (w := w) (readV_facts L h) (hv.drop fd.offset) h
        refine ⟨v, val, w', k1, k2, ?_, k4⟩
        simp only [Instr.field, Sem.run_bind, Go.run_underlying F, Result.andThen_ok, hf, asAgg, Sem.run_pure]
        exact k3
    · exact h.elim
  · exact h.elim

theorem toNat_lt {n : Int} {k : Nat} (h0 : 0 ≤ n) (h : n.toNat < k) : n < (k : Int) := by omega

theorem lt_of_get {α : Type} {l : List α} {i : Nat} {a : α} (h : l[i]? = some a) : i < l.length := by
  rcases Nat.lt_or_ge i l.length with h' | h'
  · exact h'
  · simp [List.getElem?_eq_none h'] at h

theorem run_indexAt_slice {t e : TypeId} {ie : TI} (hu : P.underlying t = some (.slice e)) (Fe : Facts P e ie) (k : IntKind) (n : Int) (b o len cap : Nat) (h0 : 0 ≤ n) (hlt : n < len) :
    (Instr.indexAt t (.slice (some ⟨b, o, none⟩) len cap) (.int k n)).run P w = .ok (.pointer (some ⟨b, o + n.toNat * ie.size, none⟩)) w := by
  simp [Instr.indexAt, asIntOf, Go.run_underlying hu, h0, hlt, Fe.run_sizeOf, Addr.add_lit]

theorem run_indexAt_array {t e : TypeId} {ie : TI} {len : Nat} (hu : P.underlying t = some (.array len e)) (Fe : Facts P e ie) (k : IntKind) (n : Int) (b o : Nat) (h0 : 0 ≤ n) (hlt : n < len) :
    (Instr.indexAt t (.pointer (some ⟨b, o, none⟩)) (.int k n)).run P w = .ok (.pointer (some ⟨b, o + n.toNat * ie.size, none⟩)) w := by
  simp [Instr.indexAt, asIntOf, Go.run_underlying hu, h0, hlt, Fe.run_sizeOf, Addr.add_lit, Instr.sureAddr]

theorem indexAddrV_sound (L : LOk P C) {t : TypeId} {x ix : V} {c ci : Value} (hx : VR g M x c) (hi : VR g M ix ci) (hr : HR H g M w) (h : indexAddrV C t x ix H K) : SemOk P g M w (Instr.indexAt t c ci) K := by
  unfold indexAddrV at h
  cases hi <;> simp only at h <;> try exact h.elim
  case int k n hkn =>
    split at h
    · rename_i e hd
      have F := (L.get (t := t) (.inl (by rw [hd]; simp))).under
      rw [hd] at F
      cases hq : (Nat.beq (C.ti e).size (C.ti t).ty.size && !Nat.beq (C.ti e).size 0) with
      | false => simp [hq] at h
      | true =>
        simp only [hq, cond_true] at h
        simp only [Bool.and_eq_true] at hq
        have hs := beq_true hq.1
        have Fe := L.get (t := e) (.inr (fun e' => by have := hq.2; rw [e'] at this; cases this))
        have vecCase : ∀ {ty : Ty} {xs : List ty.den}, VR g M (.vec ty xs) c → ty = (C.ti t).ty → 0 ≤ n → ∀ {y : ty.den}, xs[n.toNat]? = some y → K (.ref (enc ty y) 0) → SemOk P g M w (Instr.indexAt t c (.int k n)) K := by
          intro ty xs hv ht h0 y hy hk
          cases hv with
          | vecnil => simp at hy
          | vec _ _ b off n' cap cs p1 p2 p3 p4 =>
            have hlt := lt_of_get hy
            refine .pure hk (.ref _ b (off + n.toNat * ty.size) 0 _ cs p1 ?_ rfl) ?_
            · rw [enc_length]; exact p4 _ _ hy
            · rw [run_indexAt_slice F Fe k n b off n' cap h0 (by omega), hs, ← ht]
              rfl
        cases hx <;> simp only at h <;> try exact h.elim
        case vecnil ty ad cap =>
          split at h
          · cases h0 : decide (0 ≤ n) <;> simp [h0] at h
          · exact h.elim
        case vec ty xs b off n' cap cs p1 p2 p3 p4 =>
          split at h
          · rename_i ht
            cases h0 : decide (0 ≤ n) with
            | false => simp [h0] at h
            | true =>
              simp only [h0, cond_true] at h
              split at h
              · rename_i y hy
                exact vecCase (.vec ty xs b off n' cap cs p1 p2 p3 p4) ht (by simpa using h0) hy h
              · exact h.elim
          · exact h.elim
        case obj id ver ver' sz hh h1 h2 h3 h4 =>
          split at h
          · rename_i ver2 ty xs hid
            have hob := hr.ob id _ _ hid h1
            simp only [ObOk] at hob
            obtain ⟨rfl, rfl, hpos, hob⟩ := hob
            split at h
            · rename_i ht
              cases hve : Nat.beq ver ver' with
              | false => simp [hve] at h
              | true =>
                simp only [hve, cond_true] at h
                cases hc : (decide (0 ≤ n) && Nat.blt n.toNat xs.length) with
                | false => simp [hc] at h
                | true =>
                  simp only [hc, cond_true] at h
                  simp only [Bool.and_eq_true, decide_eq_true_eq, Nat.blt_eq] at hc
                  have e1 := h3 (beq_true hve)
                  rcases hob with ⟨k0, rfl⟩ | ⟨b, cap, ce, T, fz, k1, k2, k3, k4, k5, k6, k7⟩
                  · have := hc.2; simp at this
                  · subst e1
                    refine .pure h (.eptr id ver ver' ty.size n.toNat 0 b _ c h1 h2 (fun _ => ⟨_, _, k1⟩) rfl) ?_
                    rw [k1, run_indexAt_slice F Fe k n b 0 _ cap hc.1 (toNat_lt hc.1 hc.2), hs, ← ht]
                    simp
            · exact h.elim
          · rename_i ver2 ty xs hid
            have hob := hr.ob id _ _ hid h1
            simp only [ObOk] at hob
            obtain ⟨rfl, rfl, hob⟩ := hob
            split at h
            · rename_i ht
              cases hve : Nat.beq ver ver' with
              | false => simp [hve] at h
              | true =>
                simp only [hve, cond_true] at h
                cases h0 : decide (0 ≤ n) with
                | false => simp [h0] at h
                | true =>
                  simp only [h0, cond_true] at h
                  have e1 := h3 (beq_true hve)
                  subst e1
                  split at h
                  · rename_i y hy
                    exact vecCase hob ht (by simpa using h0) hy h
                  · exact h.elim
            · exact h.elim
          · exact h.elim
        case dob id ver ver' iv sz bs ih hh h1 h2 h3 h4 =>
          split at h
          · rename_i ver2 iv2 ty xs hid
            have hob := hr.ob id _ _ hid h1
            simp only [ObOk] at hob
            obtain ⟨⟨rfl, rfl, rfl⟩, hdc, _⟩ := hob
            split at h
            · rename_i ht
              cases hve : Nat.beq ver ver' with
              | false => simp [hve] at h
              | true =>
                simp only [hve, cond_true] at h
                cases hc : (decide (0 ≤ n) && Nat.blt n.toNat xs.length) with
                | false => simp [hc] at h
                | true =>
                  simp only [hc, cond_true] at h
                  simp only [Bool.and_eq_true, decide_eq_true_eq, Nat.blt_eq] at hc
                  have e1 := h3 (beq_true hve)
                  obtain ⟨v0, hv0, _, _, ⟨_, rfl, _⟩ | ⟨b, cap, ce, T, fz, bss, k1, _⟩⟩ := hdc
                  · have := hc.2; simp at this
                  · cases hv0
                    subst e1
                    refine .pure h (.dep id ver ver' iv ty.size n.toNat 0 b _ bs ih c h1 h2 (fun _ => ⟨_, _, k1⟩) rfl) ?_
                    rw [k1, run_indexAt_slice F Fe k n b 0 _ cap hc.1 (toNat_lt hc.1 hc.2), hs, ← ht]
                    simp
            · exact h.elim
          · exact h.elim
    · rename_i len e hd
      have F := (L.get (t := t) (.inl (by rw [hd]; simp))).under
      rw [hd] at F
      cases hz : Nat.beq (C.ti e).size 0 with
      | true => simp [hz] at h
      | false =>
        simp only [hz, cond_false] at h
        have Fe := L.get (t := e) (.inr (beq_false hz))
        cases hc : (decide (0 ≤ n) && decide (n < len)) with
        | false => simp [hc] at h
        | true =>
          simp only [hc, cond_true] at h
          simp only [Bool.and_eq_true, decide_eq_true_eq] at hc
          cases hx <;> simp only at h <;> try exact h.elim
          case ref cells b base off o cs h1 h2 h3 =>
            exact .pure h (.ref cells b base _ _ cs h1 h2 (by rw [h3, Nat.add_assoc])) (run_indexAt_array F Fe k n b o hc.1 hc.2)
          case ptr id off b h1 => exact .pure h (.ptr id _ b h1) (run_indexAt_array F Fe k n b off hc.1 hc.2)
    · exact h.elim

theorem indexV_sound (L : LOk P C) {t : TypeId} {x ix : V} {c ci : Value} (hx : VR g M x c) (hi : VR g M ix ci) (h : indexV C t x ix K) : SemOk P g M w (Instr.index t c ci) K := by
  unfold indexV at h
  cases hi <;> simp only at h <;> try exact h.elim
  case int k n hkn =>
    split at h
    · rename_i hd
      have F := (L.get (t := t) (.inl (by rw [hd]; simp))).under
      rw [hd] at F
      cases hx <;> simp only at h <;> try exact h.elim
      case str s l hl hl2 =>
        cases h0 : decide (0 ≤ n) with
        | false => simp [h0] at h
        | true =>
          simp only [h0, cond_true] at h
          split at h
          · rename_i b hb
            refine .pure h (.int _ _ (by have := b.toNat_lt; have e1 : IntKind.u8.min = 0 := rfl; have e2 : IntKind.u8.max = 255 := rfl; omega)) ?_
            have h0' : 0 ≤ n := by simpa using h0
            have : s[n.toNat]? = some b := by
              subst hl
              have hlt := lt_of_get hb
              have h2 : n.toNat < s.size := by rw [size_eq_length]; exact hlt
              rw [getElem?_pos s n.toNat h2]
              rw [List.getElem?_eq_getElem hlt] at hb
              simp only [Array.getElem_toList] at hb
              exact hb
            simp [Instr.index, asIntOf, Go.run_underlying F, h0', this]
          · exact h.elim
    · rename_i len e hd
      have F := (L.get (t := t) (.inl (by rw [hd]; simp))).under
      rw [hd] at F
      cases hx <;> simp only at h <;> try exact h.elim
      case agg vs cs hv =>
        cases hz : Nat.beq (C.ti e).size 0 with
        | true => simp [hz] at h
        | false =>
          simp only [hz, cond_false] at h
          have Fe := L.get (t := e) (.inr (beq_false hz))
          cases hc : (decide (0 ≤ n) && decide (n < len)) with
          | false => simp [hc] at h
          | true =>
            simp only [hc, cond_true] at h
            simp only [Bool.and_eq_true, decide_eq_true_eq] at hc
            obtain ⟨v, val, w', k1, k2, k3, k4⟩ := run_part (P := P) (w := w) Fe (hv.drop (n.toNat * (C.ti e).size)) h
            refine ⟨v, val, w', k1, k2, ?_, k4⟩
            simp only [Instr.index, asIntOf, Sem.run_bind, Sem.run_pure, Result.andThen_ok, Go.run_underlying F, hc.1, hc.2, and_self, if_true, Fe.run_sizeOf]
            exact k3
    · exact h.elim

theorem extractV_sound {x : V} {c : Value} (hx : VR g M x c) {i : Nat} (h : extractV x i K) : SemOk P g M w (Instr.extract c i) K := by
  unfold extractV at h
  cases hx <;> simp only at h <;> try exact h.elim
  case tuple vs cs hv =>
    split at h
    · rename_i v hi
      obtain ⟨c, hc, hr⟩ := hv.get hi
      have hc' : cs[i]? = some c := by simpa using hc
      exact .pure h hr (by simp [Instr.extract, hc'])
    · exact h.elim

/-! ### new things -/
theorem fillV_sound (place : Nat → Option (Nat × Nat)) (ρ : Operand → V) (ev : Operand → Value) : ∀ (ps : List (Nat × Operand)) (vs : List V) (cs : Array Value) (r : List V),
    (∀ p ∈ ps, VR g M (ρ p.2) (ev p.2)) → VRs g M vs cs.toList → fillV place vs (ps.map fun p => (p.1, ρ p.2)) = some r →
    ∃ ds, Instr.fill place cs (ps.map fun p => (p.1, ev p.2)) = some ds ∧ VRs g M r ds.toList
  | [], vs, cs, r, h, hv, hf => by
    simp only [List.map_nil, fillV, Option.some.injEq] at hf
    subst hf
    exact ⟨cs, rfl, hv⟩
  | (i, x) :: ps, vs, cs, r, h, hv, hf => by
    have hu := h (i, x) (by simp)
    simp only [List.map_cons, fillV] at hf
    simp only [List.map_cons, Instr.fill]
    cases hp : place i with
    | none => simp [hp] at hf
    | some q =>
      obtain ⟨off, size⟩ := q
      simp only [hp] at hf
      cases hc : cellsOf (ρ x) with
      | none => simp [hc] at hf
      | some us =>
        simp only [hc] at hf
        have hus := cellsOf_sound hu hc
        cases hq : (Nat.beq us.length size && Nat.ble (off + us.length) vs.length) with
        | false => simp [hq] at hf
        | true =>
          simp only [hq, cond_true] at hf
          simp only [Bool.and_eq_true] at hq
          have e1 := beq_true hq.1
          have e2 := Nat.le_of_ble_eq_true hq.2
          have l1 := hus.length
          have l2 := hv.length
          simp only [Array.length_toList] at l1 l2
          have hcond : (decide ((ev x).cells.size ≠ size) || decide (off + (ev x).cells.size > cs.size)) = false := by
            simp only [Bool.or_eq_false_iff, decide_eq_false_iff_not]
            omega
          simp only [hcond]
          have hfold : ∀ (ds : List Value) (k : Nat) (cs : Array Value), ((ds.zipIdx k).foldl (fun cs (x : Value × Nat) => cs.setIfInBounds (off + x.2) x.1) cs).toList = setAtC cs.toList (off + k) ds := by
            intro ds
            induction ds with
            | nil => intro k cs; rfl
            | cons d ds ih =>
              intro k cs
              simp only [List.zipIdx_cons, List.foldl_cons, ih, setAtC]
              simp [Nat.add_assoc]
          simp only [Bool.false_eq_true, if_false]
          refine fillV_sound place ρ ev ps _ _ r (fun p hp => h p (by simp [hp])) ?_ hf
          have := hfold (ev x).cells.toList 0 cs
          rw [← Array.foldl_toList, Array.toList_zipIdx, this]
          exact hus.setAt hv off

theorem buildV_sound (L : LOk P C) {t : TypeId} (ps : Array (Nat × Operand)) (ρ : Operand → V) (ev : Operand → Value) (hρ : ∀ p ∈ ps.toList, VR g M (ρ p.2) (ev p.2))
    (h : buildV C t (ps.toList.map fun p => (p.1, ρ p.2)) K) : SemOk P g M w (Instr.build t (ps.map fun (i, x) => (i, ev x))) K := by
  have hl : (ps.map fun (i, x) => (i, ev x)).toList = ps.toList.map fun p => (p.1, ev p.2) := by simp
  unfold buildV at h
  split at h
  · rename_i fields hd
    have F := L.get (t := t) (.inl (by rw [hd]; simp))
    have Fu := F.under
    rw [hd] at Fu
    cases ha : fields.toList.any fun f => Nat.beq (C.ti f.type).size 0 with
    | true => simp [ha] at h
    | false =>
      simp only [ha, cond_false] at h
      split at h
      · rename_i cs hcs
        have hz : VRs g M (zeroCells (C.ti t)) (C.ti t).zero.cells.toList := VRs_ofVal1 g M _
        obtain ⟨ds, h1, h2⟩ := fillV_sound _ ρ ev ps.toList _ _ cs hρ hz hcs
        refine .pure h (.agg _ ds h2) ?_
        apply run_build
        obtain ⟨x, hx, hx1, hx2, hx3⟩ := F.info
        unfold Program.built
        rw [hx, Fu]
        simp only [hx3]
        have hm : fields.toList.mapM (fun f => (P.info? f.type).map fun i => (f.offset, i.size)) = some (fields.toList.map fun f => (f.offset, (C.ti f.type).size)) := by
          generalize fields.toList = l at ha ⊢
          induction l with
          | nil => rfl
          | cons f l ih =>
            simp only [List.any_cons, Bool.or_eq_false_iff] at ha
            obtain ⟨y, hy, hy1, _⟩ := (L.get (t := f.type) (.inr (beq_false ha.1))).info
            simp [List.mapM_cons, hy, ih ha.2, hy1]
        rw [hm]
        simp only [hl]
        rw [← h1]
        congr 1
        funext i
        simp
        cases fields[i]? <;> rfl
      · exact h.elim
  · rename_i n e hd
    have F := L.get (t := t) (.inl (by rw [hd]; simp))
    have Fu := F.under
    rw [hd] at Fu
    cases hz0 : Nat.beq (C.ti e).size 0 with
    | true => simp [hz0] at h
    | false =>
      simp only [hz0, cond_false] at h
      split at h
      · rename_i cs hcs
        have hz : VRs g M (zeroCells (C.ti t)) (C.ti t).zero.cells.toList := VRs_ofVal1 g M _
        obtain ⟨ds, h1, h2⟩ := fillV_sound _ ρ ev ps.toList _ _ cs hρ hz hcs
        refine .pure h (.agg _ ds h2) ?_
        apply run_build
        obtain ⟨x, hx, hx1, hx2, hx3⟩ := F.info
        obtain ⟨y, hy, hy1, _⟩ := (L.get (t := e) (.inr (beq_false hz0))).info
        unfold Program.built
        rw [hx, Fu]
        simp only [hx3, hy, hl, hy1]
        exact h1
      · exact h.elim
  · exact h.elim

theorem zeros_list (z : Array Value) (size : Nat) (hz : z.size = size) (h0 : size ≠ 0) : ∀ len, ((Array.range (len * size)).map (fun i => z[i % z.size]!)).toList = (List.replicate len z.toList).flatten := by
  intro len
  induction len with
  | zero => simp
  | succ n ih =>
    rw [List.replicate_succ', List.flatten_append, ← ih]
    simp only [List.flatten_cons, List.flatten_nil, List.append_nil]
    apply List.ext_getElem?
    intro i
    simp only [Array.toList_map, Array.toList_range, List.getElem?_map]
    subst hz
    by_cases hi : i < n * z.size
    · rw [List.getElem?_append_left (by simpa using hi)]
      have : i < (n + 1) * z.size := by rw [Nat.succ_mul]; omega
      simp [List.getElem?_range, hi, this]
    · rw [List.getElem?_append_right (by simpa using Nat.le_of_not_lt hi)]
      simp only [List.length_map, List.length_range]
      by_cases hi2 : i < (n + 1) * z.size
      · have e : i % z.size = i - n * z.size := by
          rw [Nat.succ_mul] at hi2
          have : i = (i - n * z.size) + n * z.size := by omega
          rw [this, Nat.add_mul_mod_self_right, Nat.mod_eq_of_lt (by omega)]
          omega
        rw [Nat.succ_mul] at hi2
        have h3 : i - n * z.size < z.size := by omega
        have h4 : i < (n + 1) * z.size := by rw [Nat.succ_mul]; omega
        simp [List.getElem?_range, h4, e, h3]
      · rw [List.getElem?_eq_none (by simpa using Nat.le_of_not_lt hi2)]
        rw [Nat.succ_mul] at hi2
        rw [List.getElem?_eq_none (by simp; omega)]
        rfl

theorem rep_sound {vs : List V} {cs : List Value} (h : VRs g M vs cs) : ∀ n, VRs g M (rep n vs) (List.replicate n cs).flatten
  | 0 => .nil
  | n + 1 => by
    simp only [rep, List.replicate_succ, List.flatten_cons]
    exact h.append (rep_sound h n)

end
end Go.Ev
