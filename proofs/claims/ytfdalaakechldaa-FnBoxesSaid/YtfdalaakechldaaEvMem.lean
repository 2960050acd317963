/- The operations that look into memory, write it or make it do what the evaluator says. -/
import Derived.Test.YtfdalaakechldaaEvVal
set_option linter.unusedVariables false
set_option linter.unusedSimpArgs false
namespace Go.Ev

section
variable {P : Program} {C : Ctx} {g : List G} {M : Mem} {w : World} {H : Heap} {K : V → Prop}

theorem beq_false {n m : Nat} (h : Nat.beq n m = false) : n ≠ m := fun e => by subst e; simp at h
theorem beq_true {n m : Nat} (h : Nat.beq n m = true) : n = m := Nat.eq_of_beq_eq_true h

theorem readV_facts (L : LOk P C) {t : TypeId} {cs : List V} (h : readV (C.ti t) cs K) : Facts P t (C.ti t) := by
  unfold readV at h
  cases ha : (C.ti t).agg with
  | true =>
    refine L.get (.inl fun e => ?_)
    unfold TI.agg at ha
    rw [e] at ha
    cases ha
  | false =>
    simp only [ha, cond_false] at h
    cases hz : Nat.beq (C.ti t).size 0 with
    | true => simp [hz] at h
    | false => exact L.get (.inr (beq_false hz))

theorem cellsOf_sound {v : V} {c : Value} (h : VR g M v c) {vs : List V} (hc : cellsOf v = some vs) : VRs g M vs c.cells.toList := by
  cases h <;> simp only [cellsOf] at hc <;> (try (cases hc; done)) <;> cases hc
  case agg cs h => exact h
  case obj id ver ver' sz h h1 h2 h3 h4 =>
    cases c <;> simp [Value.oneCell'] at h4 <;> exact .cons (.obj _ _ _ _ _ _ h1 h2 h3 rfl) .nil
  case dob id ver ver' iv sz bs ih h h1 h2 h3 h4 =>
    cases c <;> simp [Value.oneCell'] at h4 <;> exact .cons (.dob _ _ _ _ _ _ _ _ _ h1 h2 h3 rfl) .nil
  case inn id iv iv' ver i off sz bs ih h h1 h2 h3 h4 =>
    cases c <;> simp [Value.oneCell'] at h4 <;> exact .cons (.inn _ _ _ _ _ _ _ _ _ _ _ h1 h2 h3 rfl) .nil
  all_goals exact .cons (by constructor <;> assumption) .nil

theorem one_sound {v : V} {c : Value} (h : VR g M v c) (h1 : one v = true) : c.oneCell' = true := by
  cases h <;> simp [one] at h1 <;> first | rfl | assumption
theorem ones_sound : ∀ {vs : List V} {cs : List Value}, VRs g M vs cs → vs.all one = true → ∀ c ∈ cs, c.oneCell' = true
  | _, _, .nil, _ => by simp
  | _, _, .cons h t, ha => by
    simp at ha
    intro c hc
    simp at hc
    rcases hc with rfl | hc
    · exact one_sound h ha.1
    · exact ones_sound t (by simp; exact ha.2) c hc

theorem encD_length {mk : Nat → V} : ∀ (t : Ty) (x : t.den) (o : Nat), (encD mk t x o).length = t.size
  | .int _, _, _ => rfl
  | .float _, _, _ => rfl
  | .bool, _, _ => rfl
  | .str, _, _ => rfl
  | .slice _, _, _ => rfl
  | .pair a b, x, o => by simp [encD, Ty.size, encD_length a, encD_length b]
  | .unit, _, _ => rfl

theorem loadV_sound (L : LOk P C) {t : TypeId} {x : V} {c : Value} (hx : VR g M x c) (hr : HR H g M w) (h : loadV C t x H K) : SemSt P g M w (Instr.loadAt t c) K := by
  have fin : ∀ {b o : Nat} {ce : Array Value} {T : TypeId} {fz : Nat × Nat} {vs : List V}, c = .pointer (some ⟨b, o, none⟩) → w.heap[b]? = some (.cells ce T fz) → VRs g M vs ((ce.toList.drop o).take vs.length) →
      readV (C.ti t) vs K → SemSt P g M w (Instr.loadAt t c) K := by
    intro b o ce T fz vs e h1 h2 h3
    obtain ⟨v, val, k1, k2, k3⟩ := run_loadVar_cells (readV_facts L h3) h1 o h2 h3
    refine ⟨v, val, k1, k2, ?_⟩
    subst e
    simp [Instr.loadAt, Instr.sureAddr, k3]
  unfold loadV at h
  cases hx <;> simp only at h <;> try exact h.elim
  case ref cells b base off o cs h1 h2 h3 =>
    obtain ⟨ce, T, fz, k1, k2⟩ := hr.mem _ _ h1
    subst k2
    subst h3
    refine fin rfl k1 ?_ h
    have := h2.drop off
    rw [List.drop_take, List.drop_drop] at this
    simpa using this
  case ptr id off b h1 =>
    split at h
    · rename_i cells hid
      have ho := hr.ob id _ _ hid h1
      simp only [ObOk] at ho
      obtain ⟨ce, T, fz, k1, k2, k3, k4⟩ := ho
      refine fin rfl k1 ?_ h
      have := k2.drop off
      have hl := this.length
      rw [show (ce.toList.drop off).take (cells.drop off).length = ce.toList.drop off by rw [hl, List.take_length]]
      exact this
    · exact h.elim
  case eptr id ver ver' sz i off b o hh h1 h2 h3 h4 =>
    split at h
    · rename_i ver2 ty xs hid
      have ho := hr.ob id _ _ hid h1
      simp only [ObOk] at ho
      obtain ⟨rfl, rfl, hpos, ho⟩ := ho
      cases hv : Nat.beq ver ver' with
      | false => simp [hv] at h
      | true =>
        simp only [hv, cond_true] at h
        obtain ⟨n, cc, e1⟩ := h3 (beq_true hv)
        have e2 := h4
        split at h
        · rename_i x hx
          rcases ho with ⟨k0, rfl⟩ | ⟨b', cap, ce, T, fz, k1, k2, k3, k4, k5, k6, k7⟩
          · simp at hx
          · rw [e1] at k1
            simp at k1
            obtain ⟨rfl, rfl, rfl⟩ := k1
            subst e2
            refine fin rfl k2 ?_ h
            have := (k5 i x hx).drop off
            rw [List.drop_take, List.drop_drop] at this
            rw [List.length_drop, enc_length]
            exact this
        · exact h.elim
    · rename_i ver2 ty xs hid
      have ho := hr.ob id _ _ hid h1
      simp only [ObOk] at ho
      obtain ⟨rfl, rfl, ho⟩ := ho
      cases hv : Nat.beq ver ver' with
      | false => simp [hv] at h
      | true =>
        simp only [hv, cond_true] at h
        obtain ⟨n, cc, e1⟩ := h3 (beq_true hv)
        have e2 := h4
        split at h
        · rename_i x hx
          subst e1
          cases ho with
          | vecnil => simp at hx
          | vec _ _ _ _ _ _ cs p1 p2 p3 p4 =>
            obtain ⟨ce, T, fz, k1, k2⟩ := hr.mem _ _ p1
            subst k2
            subst e2
            refine fin rfl k1 ?_ h
            have := (p4 i x hx).drop off
            rw [List.drop_take, List.drop_drop, Nat.zero_add] at this
            rw [List.length_drop, enc_length]
            exact this
        · exact h.elim
    · exact h.elim
  case dep id ver ver' iv sz i off b o bs ih hh h1 h2 h3 h4 =>
    split at h
    · rename_i ver2 iv2 ty xs hid
      have ho := hr.ob id _ _ hid h1
      have ho' := ho
      simp only [ObOk] at ho
      obtain ⟨⟨rfl, rfl, rfl⟩, _⟩ := ho
      cases hv : Nat.beq ver ver' with
      | false => simp [hv] at h
      | true =>
        simp only [hv, cond_true] at h
        obtain ⟨n, cc, e1⟩ := h3 (beq_true hv)
        split at h
        · rename_i x hx
          obtain ⟨ce, T, fz, bss, k1, _, _, _, _, _, _, _, _, k8⟩ := dp_elem h1 ho' e1
          subst h4
          refine fin rfl k1 ?_ h
          have := (k8 i x hx).drop off
          rw [List.drop_take, List.drop_drop] at this
          rw [List.length_drop, encD_length]
          exact this
        · exact h.elim
    · exact h.elim

theorem run_storeVar_row' {t : TypeId} {i : TI} (F : Facts P t i) {w : World} {b : Nat} {c : Array Value} {T : TypeId} {fz : Nat × Nat} (h : w.heap[b]? = some (.cells c T fz)) (hz : Clear c.size fz) (o : Nat) (v : Value)
    (hs : v.cells.toList.length = i.size) (hl : o + v.cells.toList.length ≤ c.size) (h1 : ∀ u ∈ v.cells.toList, u.oneCell' = true) :
    (storeVar t ⟨b, o, none⟩ v).run P w = .ok () (putRow w b (setAtC c.toList o v.cells.toList).toArray T fz) := by
  have hs' : v.cells.size = i.size := by simpa using hs
  have := run_storeCells_clear P b o T fz v.cells.toList 0 c w h (by simpa using hl) hz h1
  simp only [storeVar, Sem.run_bind, F.run_sizeOf, Result.andThen_ok, hs', ne_eq, not_true_eq_false, if_false, Sem.run_pure]
  simpa using this

theorem take_setAtC : ∀ (ds : List Value) (cs : List Value) (i m n : Nat), i + ds.length ≤ n →
    ((setAtC cs (m + i) ds).drop m).take n = setAtC ((cs.drop m).take n) i ds
  | [], cs, i, m, n, _ => rfl
  | d :: ds, cs, i, m, n, h => by
    simp at h
    simp only [setAtC]
    rw [show m + i + 1 = m + (i + 1) by omega, take_setAtC ds _ (i + 1) m n (by omega)]
    congr 1
    rw [List.drop_set]
    rw [if_neg (by omega), List.take_set, show m + i - m = i by omega]

theorem drop_setAtC_other : ∀ (ds : List Value) (cs : List Value) (i m n : Nat), (m + n ≤ i ∨ i + ds.length ≤ m) →
    ((setAtC cs i ds).drop m).take n = (cs.drop m).take n
  | [], cs, i, m, n, _ => rfl
  | d :: ds, cs, i, m, n, h => by
    simp at h
    simp only [setAtC]
    rw [drop_setAtC_other ds _ (i + 1) m n (by omega)]
    apply List.ext_getElem?
    intro j
    simp only [List.getElem?_take, List.getElem?_drop]
    split
    · rw [List.getElem?_set_ne (by omega)]
    · rfl

theorem toArray_size (l : List Value) : l.toArray.size = l.length := by simp

theorem setAtC_cons : ∀ (ds : List Value) (x : Value) (cs : List Value) (i : Nat), setAtC (x :: cs) (i + 1) ds = x :: setAtC cs i ds
  | [], _, _, _ => rfl
  | d :: ds, x, cs, i => by simp only [setAtC, List.set_cons_succ]; exact setAtC_cons ds x (cs.set i d) (i + 1)
theorem setAtC_all : ∀ {ds cs : List Value}, cs.length = ds.length → setAtC cs 0 ds = ds
  | [], [], _ => rfl
  | [], _ :: _, h => by simp at h
  | _ :: _, [], h => by simp at h
  | d :: ds, c :: cs, h => by
    simp only [setAtC, List.set_cons_zero]
    rw [setAtC_cons, setAtC_all (by simpa using h)]

theorem storeV_sound0 (L : LOk P C) {t : TypeId} {x v : V} {cx c : Value} (hx : VR g M x cx) (hv : VR g M v c) (hr : HR H g M w) {w0 : World} {M0 : Mem} {own0 : Z} (hb : Base w0 M0 own0 H g M w)
    {K : Heap → Prop} (h : storeV C t x v H K) (hnd : ∀ id ver i off, x ≠ .dep id ver i off) : ∃ H' w', K H' ∧ (Instr.storeAt t cx c).run P w = .ok () w' ∧ HR H' g M w' ∧ Base w0 M0 own0 H' g M w' := by
  unfold storeV at h
  cases hc : cellsOf v with
  | none => simp [hc] at h
  | some vs =>
    simp only [hc] at h
    have hvs := cellsOf_sound hv hc
    cases hq : (Nat.beq vs.length (C.ti t).size && !Nat.beq (C.ti t).size 0 && vs.all one) with
    | false => simp [hq] at h
    | true =>
      simp only [hq, cond_true] at h
      simp only [Bool.and_eq_true] at hq
      obtain ⟨⟨q1, q2⟩, q3⟩ := hq
      have q1 := beq_true q1
      have F := L.get (t := t) (.inr (fun e => by rw [e] at q2; cases q2))
      have hl := hvs.length
      have ho := ones_sound hvs q3
      cases hx <;> simp only at h <;> try exact h.elim
      case dep => exact absurd rfl (hnd _ _ _ _)
      case ptr id off b h1 =>
        split at h
        · rename_i cells hid
          have hob := hr.ob id _ _ hid h1
          simp only [ObOk] at hob
          obtain ⟨ce, T, fz, k1, k2, k3, k4⟩ := hob
          cases hle : Nat.ble (off + vs.length) cells.length with
          | false => simp [hle] at h
          | true =>
            simp only [hle, cond_true] at h
            have hle := Nat.le_of_ble_eq_true hle
            have hlen := k2.length
            refine ⟨_, putRow w b (setAtC ce.toList off c.cells.toList).toArray T fz, h, ?_, hr.write (b := b) hid h1 rfl (fun _ h => h) ?_, hb.write (b := b) hid h1 rfl (fun _ h => h)⟩
            · simp only [Instr.storeAt, Instr.sureAddr, Sem.run_bind, Sem.run_pure, Result.andThen_ok]
              exact run_storeVar_row' F k1 k3 off c (by omega) (by rw [← hl]; simp at hlen; omega) ho
            · simp only [ObOk]
              refine ⟨_, T, fz, putRow_get (lt_of_cells k1), ?_, ?_, k4⟩
              · exact hvs.setAt k2 off
              · rw [toArray_size, setAtC_length]; simpa using k3
        · exact h.elim
      case eptr id ver ver' sz i off b o hh h1 h2 h3 h4 =>
        split at h
        · rename_i ver2 ty xs hid
          have hob := hr.ob id _ _ hid h1
          have hob' := hob
          simp only [ObOk] at hob
          obtain ⟨rfl, rfl, hpos, hob⟩ := hob
          cases hve : Nat.beq ver ver' with
          | false => simp [hve] at h
          | true =>
            simp only [hve, cond_true] at h
            obtain ⟨n, cc, e1⟩ := h3 (beq_true hve)
            have e2 := h4
            split at h
            · rename_i x hxi
              cases hle : Nat.ble (off + vs.length) ty.size with
              | false => simp [hle] at h
              | true =>
                simp only [hle, cond_true] at h
                have hle := Nat.le_of_ble_eq_true hle
                split at h
                · rename_i x' hdec
                  rcases hob with ⟨k0, rfl⟩ | ⟨b', cap, ce, T, fz, k1, k2, k3, k4, k5, k6, k7⟩
                  · simp at hxi
                  · rw [e1] at k1
                    simp at k1
                    obtain ⟨rfl, rfl, rfl⟩ := k1
                    have hi : i < xs.length := by
                      rcases Nat.lt_or_ge i xs.length with h' | h'
                      · exact h'
                      · simp [List.getElem?_eq_none h'] at hxi
                    have hmul : (i + 1) * ty.size ≤ cc * ty.size := Nat.mul_le_mul_right _ (by omega)
                    rw [Nat.succ_mul] at hmul
                    have hown : ownB (.sl ver' ty xs) (.sl hh ver' ty.size) b := by rw [e1]; rfl
                    have hown' : ∀ b', ownB (.sl ver' ty (xs.set i x')) (.sl hh ver' ty.size) b' → ownB (.sl ver' ty xs) (.sl hh ver' ty.size) b' := by rw [e1]; exact fun _ h => h
                    refine ⟨_, putRow w b (setAtC ce.toList (i * ty.size + off) c.cells.toList).toArray T fz, h, ?_, hr.write (b := b) hid h1 hown hown' ?_, hb.write (b := b) hid h1 hown hown'⟩
                    · subst e2
                      simp only [Instr.storeAt, Instr.sureAddr, Sem.run_bind, Sem.run_pure, Result.andThen_ok]
                      exact run_storeVar_row' F k2 k6.1 _ c (by omega) (by rw [← hl]; omega) ho
                    · simp only [ObOk]
                      refine ⟨trivial, trivial, ⟨hpos.1, by rw [List.length_set]; exact hpos.2⟩, .inr ⟨b, cc, _, T, fz, ?_, putRow_get (lt_of_cells k2), ?_, ?_, ?_, ?_, k7⟩⟩
                      · rw [List.length_set]; exact e1
                      · rw [List.length_set]; exact k3
                      · rw [toArray_size, setAtC_length]; simpa using k4
                      · intro j y hj
                        by_cases hji : i = j
                        · subst hji
                          rw [List.getElem?_set] at hj
                          simp [hi] at hj
                          subst hj
                          show VRs g M _ (((setAtC ce.toList (i * ty.size + off) c.cells.toList).drop (i * ty.size)).take ty.size)
                          rw [take_setAtC _ _ _ _ _ (by omega)]
                          have hset := hvs.setAt (k5 i x hxi) off
                          have := (dec_sound ty hdec hset).1
                          rw [List.take_of_length_le (by rw [setAtC_length, List.length_take]; omega)] at this
                          exact this
                        · rw [List.getElem?_set_ne hji] at hj
                          show VRs g M _ (((setAtC ce.toList (i * ty.size + off) c.cells.toList).drop (j * ty.size)).take ty.size)
                          rw [drop_setAtC_other]
                          · exact k5 j y hj
                          · rcases Nat.lt_or_ge i j with hlt | hge
                            · right
                              have := Nat.mul_le_mul_right ty.size (show i + 1 ≤ j by omega)
                              rw [Nat.succ_mul] at this
                              omega
                            · left
                              have := Nat.mul_le_mul_right ty.size (show j + 1 ≤ i by omega)
                              rw [Nat.succ_mul] at this
                              omega
                      · rw [toArray_size, setAtC_length]; simpa using k6
                · exact h.elim
            · exact h.elim
        · exact h.elim
      case bptr id b buf h1 =>
        split at h
        · rename_i T e hid
          have hob := hr.ob id _ _ hid h1
          simp only [ObOk] at hob
          obtain ⟨p, v0, k1, k2, k3, k4, k5, k6, k7, k8⟩ := hob
          have k8 := k8 trivial
          subst k8
          split at h
          · cases hT : Nat.beq T t with
            | false => simp [hT] at h
            | true =>
              simp only [hT, cond_true] at h
              have hcc : c.cells.toList = [.pointer none, .slice none 0 0] := by
                generalize c.cells.toList = cl at hvs
                cases hvs with
                | cons a r =>
                  cases r with
                  | cons a' r =>
                    cases r
                    cases a; cases a'
                    rfl
              have hset : (setAtC (#[p, .slice none 0 0] : Array Value).toList 0 c.cells.toList).toArray = #[.pointer none, .slice none 0 0] := by rw [hcc]; rfl
              have hw := hr.write (o' := .bld T e []) (b := b) (c := (setAtC (#[p, .slice none 0 0] : Array Value).toList 0 c.cells.toList).toArray) (T := T) (fz := (0, 0)) hid h1 (.inl rfl) (fun _ h => h) (by
                simp only [ObOk]
                exact ⟨.pointer none, .slice none 0 0, by rw [hset]; exact putRow_get (lt_of_cells k1), .inl rfl, ⟨rfl, .inl ⟨rfl, rfl⟩⟩, k4, k5, k6, k7, fun _ => rfl⟩)
              have hbw := hb.write (o' := .bld T e []) (b := b) (c := (setAtC (#[p, .slice none 0 0] : Array Value).toList 0 c.cells.toList).toArray) (T := T) (fz := (0, 0)) hid h1 (.inl rfl) (fun _ h => h)
              have hset : H.set id (.bld T e []) = H := by
                refine List.ext_getElem? fun j => ?_
                rw [List.getElem?_set]
                split
                · rename_i e'
                  subst e'
                  rw [hid]
                  simp [(List.getElem?_eq_some_iff.1 hid).1]
                · rfl
              rw [hset] at hw hbw
              refine ⟨_, _, h, ?_, hw, hbw⟩
              simp only [Instr.storeAt, Instr.sureAddr, Sem.run_bind, Sem.run_pure, Result.andThen_ok]
              exact run_storeVar_row' F k1 (fun i _ h => by omega) 0 c (by omega) (by rw [hcc]; exact Nat.le_refl 2) ho
          · exact h.elim
        · exact h.elim


theorem storeV_dep (L : LOk P C) {t : TypeId} {v : V} {id ver i off : Nat} {cx c : Value} (hx : VR g M (.dep id ver i off) cx) (hv : VR g M v c) (hr : HR H g M w) {w0 : World} {M0 : Mem} {own0 : Z} (hz : own0.n ≤ C.base) (hb : Base w0 M0 own0 H g M w)
    {K : Heap → Prop} (h : storeV C t (.dep id ver i off) v H K) : ∃ H' w' g', K H' ∧ (Instr.storeAt t cx c).run P w = .ok () w' ∧ HR H' g' M w' ∧ Base w0 M0 own0 H' g' M w' ∧ Ext g M g' M := by
  unfold storeV at h
  cases hc : cellsOf v with
  | none => simp [hc] at h
  | some vs =>
    simp only [hc] at h
    have hvs := cellsOf_sound hv hc
    cases hq : (Nat.beq vs.length (C.ti t).size && !Nat.beq (C.ti t).size 0 && vs.all one) with
    | false => simp [hq] at h
    | true =>
      simp only [hq, cond_true] at h
      simp only [Bool.and_eq_true] at hq
      obtain ⟨⟨q1, q2⟩, q3⟩ := hq
      have q1 := beq_true q1
      have F := L.get (t := t) (.inr (fun e => by rw [e] at q2; cases q2))
      have hl := hvs.length
      have ho := ones_sound hvs q3
      cases hx with
      | dep _ _ ver' iv sz _ _ b o bs ih hh h1 h2 h3 h4 =>
      split at h
      · rename_i ver2 iv2 ty xs hid
        have hob := hr.ob id _ _ hid h1
        have hob' := hob
        simp only [ObOk] at hob
        obtain ⟨⟨rfl, rfl, rfl⟩, _, hnd, hmn, _⟩ := hob
        cases hve : Nat.beq ver ver' with
        | false => simp [hve] at h
        | true =>
          simp only [hve, cond_true] at h
          obtain ⟨n, cc, e1⟩ := h3 (beq_true hve)
          subst h4
          split at h
          · rename_i x hxi
            obtain ⟨ce, T, fz, bss, k1, k2, k3, k4, k5, k6, k7, k8, k9, k10⟩ := dp_elem h1 hob' e1
            have hi : i < xs.length := (List.getElem?_eq_some_iff.1 hxi).1
            have hib : i < bss.length := by omega
            have hbi : bss[i]? = some bss[i] := List.getElem?_eq_getElem hib
            have hmul : (i + 1) * ty.size ≤ cc * ty.size := Nat.mul_le_mul_right _ (by omega)
            rw [Nat.succ_mul] at hmul
            have hbm : b ∈ bs := by rw [k6]; simp
            have hbn : ∀ bi, bi ∈ bss → b ∉ bi := by
              intro bi hbi hm
              rw [k6] at hnd
              exact (List.nodup_cons.1 hnd).1 (List.mem_flatten.2 ⟨bi, hbi, hm⟩)
            have hrun : off + vs.length ≤ ty.size → (Instr.storeAt t (.pointer (some ⟨b, i * ty.size + off, none⟩)) c).run P w = .ok () (putRow w b (setAtC ce.toList (i * ty.size + off) c.cells.toList).toArray T fz) := by
              intro hle
              simp only [Instr.storeAt, Instr.sureAddr, Sem.run_bind, Sem.run_pure, Result.andThen_ok]
              exact run_storeVar_row' F k1 k5.1 _ c (by omega) (by rw [← hl]; omega) ho
            have hsize : (setAtC ce.toList (i * ty.size + off) c.cells.toList).toArray.size = ce.size := by rw [toArray_size, setAtC_length]; simp
            have hothers : off + vs.length ≤ ty.size → ∀ j, j ≠ i → ((setAtC ce.toList (i * ty.size + off) c.cells.toList).drop (j * ty.size)).take ty.size = (ce.toList.drop (j * ty.size)).take ty.size := by
              intro hle j hj
              refine drop_setAtC_other _ _ _ _ _ ?_
              rcases Nat.lt_or_ge j i with hlt | hge
              · have : (j + 1) * ty.size ≤ i * ty.size := Nat.mul_le_mul_right _ (by omega)
                rw [Nat.succ_mul] at this
                exact .inl (by omega)
              · have : (i + 1) * ty.size ≤ j * ty.size := Nat.mul_le_mul_right _ (by omega)
                rw [Nat.succ_mul] at this
                exact .inr (by rw [← hl]; omega)
            have hmine : off + vs.length ≤ ty.size → ((setAtC ce.toList (i * ty.size + off) c.cells.toList).drop (i * ty.size)).take ty.size = setAtC ((ce.toList.drop (i * ty.size)).take ty.size) off c.cells.toList := by
              intro hle
              exact take_setAtC _ _ _ _ _ (by omega)
            have hframe : ∀ {y : ty.den} {cs : List Value} {bi : List Nat} {c' : Array Value}, b ∉ bi → DC w ty y cs bi → DC (putRow w b c' T fz) ty y cs bi := fun hnb hd =>
              DC_frame ty (fun b' hb' => putRow_other fun e => hnb (e ▸ hb')) hd
            have hdcs : ∀ (x' : ty.den) (bi' : List Nat), off + vs.length ≤ ty.size → DC w ty x' (setAtC ((ce.toList.drop (i * ty.size)).take ty.size) off c.cells.toList) bi' → b ∉ bi' → ∀ w1, w1 = putRow w b (setAtC ce.toList (i * ty.size + off) c.cells.toList).toArray T fz →
                DC w1 (.slice ty) (xs.set i x') [hh] (b :: (bss.set i bi').flatten) := by
              rintro x' bi' hle hd hnb w1 rfl
              refine ⟨hh, rfl, ?_, ?_, .inr ⟨b, cc, _, T, fz, bss.set i bi', ?_, putRow_get (lt_of_cells k1), ?_, ?_, ?_, rfl, ?_, ?_⟩⟩
              · rw [List.length_set]
                simp only [ObOk] at hob'
                obtain ⟨_, ⟨_, _, hll, _⟩, _⟩ := hob'
                exact hll
              · simp only [ObOk] at hob'
                obtain ⟨_, ⟨_, _, _, hss, _⟩, _⟩ := hob'
                exact hss
              · rw [List.length_set, ← k2]; exact e1
              · rw [List.length_set]; exact k3
              · rw [hsize]; exact k4
              · rw [hsize]; exact k5
              · rw [List.length_set, List.length_set]; exact k7
              · intro j y bj hy hbj
                by_cases hji : i = j
                · subst hji
                  rw [List.getElem?_set_self hi] at hy
                  rw [List.getElem?_set_self hib] at hbj
                  cases hy; cases hbj
                  show DC _ ty x' (((setAtC ce.toList (i * ty.size + off) c.cells.toList).drop (i * ty.size)).take ty.size) bi'
                  rw [hmine hle]
                  exact hframe hnb hd
                · rw [List.getElem?_set_ne hji] at hy hbj
                  show DC _ ty y (((setAtC ce.toList (i * ty.size + off) c.cells.toList).drop (j * ty.size)).take ty.size) bj
                  rw [hothers hle j (fun e => hji e.symm)]
                  exact hframe (hbn bj (List.mem_of_getElem? hbj)) (k8 j y bj hy hbj)
            cases hwh : (Nat.beq off 0 && Nat.beq vs.length ty.size) with
            | true =>
              simp only [hwh, cond_true] at h
              simp only [Bool.and_eq_true] at hwh
              have hoff := beq_true hwh.1
              have hvl := beq_true hwh.2
              subst hoff
              split at h
              · rename_i x' Ls hda
                cases hn : (nodupB (id :: Ls) && Nat.ble C.base id) with
                | false => simp only [hn, cond_false] at h
                | true =>
                  simp only [hn, cond_true] at h
                  simp only [Bool.and_eq_true] at hn
                  have hnl := nodupB_ok hn.1
                  rw [List.nodup_cons] at hnl
                  obtain ⟨bi', d1, d2, d3, d4⟩ := decOw_sound hr ty hda hvs hnl.2
                  have hcl : c.cells.toList.length = ty.size := by omega
                  rw [List.take_of_length_le (by omega)] at d1
                  have hle : 0 + vs.length ≤ ty.size := by omega
                  have hset : setAtC ((ce.toList.drop (i * ty.size)).take ty.size) 0 c.cells.toList = c.cells.toList := by
                    refine setAtC_all ?_
                    have hce : ce.toList.length = ce.size := by simp
                    rw [List.length_take, List.length_drop, hcl, hce]
                    exact Nat.min_eq_left (by omega)
                  have hapart : ∀ b', b' ∈ bi' → b' ∉ bs := by
                    intro b' hb' hm
                    obtain ⟨j, hj, o1, y1, m1, m2, m3⟩ := d4 b' hb'
                    have := hr.apart j id o1 _ y1 _ b' m1 m2 hid h1 m3 (show ownB _ _ b' from hm)
                    subst this
                    exact hnl.1 hj
                  have hnb : b ∉ bi' := fun hm => hapart b hm hbm
                  have hd' := hdcs x' bi' hle (by rw [hset]; exact d1) hnb _ rfl
                  have hmem : ∀ b', b' ∈ b :: (bss.set i bi').flatten → b' ∈ bs ∨ b' ∈ bi' := by
                    intro b' hb'
                    rcases List.mem_cons.1 hb' with rfl | hb'
                    · exact .inl hbm
                    · rcases mem_flatten_set hb' with k | k
                      · exact .inl (by rw [k6]; exact List.mem_cons_of_mem _ k)
                      · exact .inr k
                  have hnd2 := hnd
                  rw [k6, List.nodup_cons] at hnd2
                  have hfinal := adopt_set (L := Ls) (w' := putRow w b (setAtC ce.toList (i * ty.size + 0) c.cells.toList).toArray T fz) (o' := .dp ver' (iv + 1) ty (xs.set i x')) (x' := .dp hh ver' (iv + 1) ty.size (b :: (bss.set i bi').flatten) (fun k => ((setAtC ce.toList (i * ty.size + 0) c.cells.toList)[k]?).getD Go.undef)) hr hb hid h1
                    ⟨rfl, Nat.le_refl _, fun _ => rfl, by omega, fun e => by omega⟩ (fun _ => .inl (Nat.le_trans hz (Nat.le_of_ble_eq_true hn.2))) (by rw [putRow_size]; exact Nat.le_refl _) rfl rfl rfl
                    (fun b' _ hno _ => putRow_other fun e => hno (by show b' ∈ bs; rw [← e]; exact hbm)) ?_ ?_
                  · exact ⟨_, _, _, h, hrun hle, hfinal.1, hfinal.2.1, hfinal.2.2⟩
                  · simp only [ObOk]
                    refine ⟨⟨trivial, trivial, trivial⟩, hd', ?_, ?_, ?_⟩
                    · rw [List.nodup_cons]
                      refine ⟨fun hm => ?_, nodup_flatten_set hnd2.2 d3 fun b' hb' hm => hapart b' hb' (by rw [k6]; exact List.mem_cons_of_mem _ hm)⟩
                      rcases mem_flatten_set hm with k | k
                      · exact hnd2.1 k
                      · exact hnb k
                    · intro b' hb'
                      rcases hmem b' hb' with k | k
                      · exact hmn b' k
                      · obtain ⟨j, hj, o1, y1, m1, m2, m3⟩ := d4 b' k
                        exact (Ev.own_lt (hr.ob j o1 y1 m1 m2) m3).2
                    · intro b' n' cap' c' T' fz' e' hc' j o' hj ho' hs'
                      rw [e1] at e'
                      cases e'
                      rw [putRow_get (lt_of_cells k1)] at hc'
                      cases hc'
                      have hlt : j * ty.size + o' < (setAtC ce.toList (i * ty.size + 0) c.cells.toList).length := by
                        rw [setAtC_length]
                        rw [List.length_set] at hj
                        have : (j + 1) * ty.size ≤ cc * ty.size := Nat.mul_le_mul_right _ (by omega)
                        rw [Nat.succ_mul] at this
                        simp
                        omega
                      show (setAtC ce.toList (i * ty.size + 0) c.cells.toList)[j * ty.size + o']? = _
                      rw [List.getElem?_eq_getElem hlt]
                      rfl
                  · intro b' hb'
                    rcases hmem b' hb' with k | k
                    · exact .inl k
                    · exact .inr (.inl (d4 b' k))
              · exact h.elim
            | false =>
              simp only [hwh, cond_false] at h
              cases hle : Nat.ble (off + vs.length) ty.size with
              | false => simp only [hle, cond_false] at h
              | true =>
                simp only [hle, cond_true] at h
                have hle := Nat.le_of_ble_eq_true hle
                cases hni : vs.all noInn with
                | false => simp only [hni, cond_false] at h
                | true =>
                simp only [hni, cond_true] at h
                split at h
                · rename_i x' hdec
                  replace hdec := decD_ren0 i hni hdec
                  have hset := hvs.setAt (k10 i x hxi) off
                  obtain ⟨d1, d2, d3⟩ := decD_sound (w := w) (ih := ih) (sz := ty.size) (fun o v hv => by
                    cases hv with
                    | inn _ _ iv' _ _ _ _ bs' ih' _ _ p1 p2 p3 p4 =>
                      rw [h1] at p1
                      cases p1
                      exact p3 rfl) ty 0 (k8 i x _ hxi hbi) (fun k v hk hs => by rw [Nat.zero_add]; exact k9 i x hxi k v hk hs) hdec hset
                  have hlen2 : (setAtC ((ce.toList.drop (i * ty.size)).take ty.size) off c.cells.toList).length ≤ ty.size := by rw [setAtC_length, List.length_take]; omega
                  rw [List.take_of_length_le hlen2] at d1 d3
                  have hbs : (bss.set i bss[i]) = bss := by
                    refine List.ext_getElem? fun j => ?_
                    by_cases e : i = j
                    · subst e; rw [List.getElem?_set_self hib, hbi]
                    · rw [List.getElem?_set_ne e]
                  have hd' := hdcs x' bss[i] hle d1 (hbn _ (List.getElem_mem hib)) _ rfl
                  rw [hbs, ← k6] at hd'
                  have hown : ownB (.dp ver' iv ty xs) (.dp hh ver' iv ty.size bs ih) b := hbm
                  refine ⟨_, putRow w b (setAtC ce.toList (i * ty.size + off) c.cells.toList).toArray T fz, g, h, hrun hle, hr.write (b := b) hid h1 hown (fun _ h => h) ?_, hb.write (b := b) hid h1 hown (fun _ h => h), Ext.refl _ _⟩
                  simp only [ObOk]
                  refine ⟨⟨trivial, trivial, trivial⟩, hd', hnd, hmn, ?_⟩
                  intro b' n' cap' c' T' fz' e' hc' j o' hj ho' hs'
                  rw [e1] at e'
                  cases e'
                  rw [putRow_get (lt_of_cells k1)] at hc'
                  cases hc'
                  show (setAtC ce.toList (i * ty.size + off) c.cells.toList)[j * ty.size + o']? = _
                  rw [List.length_set] at hj
                  have hjm : (j + 1) * ty.size ≤ cc * ty.size := Nat.mul_le_mul_right _ (by omega)
                  rw [Nat.succ_mul] at hjm
                  have hlt : j * ty.size + o' < (setAtC ce.toList (i * ty.size + off) c.cells.toList).length := by
                    rw [setAtC_length]
                    simp
                    omega
                  have hget : (((setAtC ce.toList (i * ty.size + off) c.cells.toList).drop (j * ty.size)).take ty.size)[o']? = some ((setAtC ce.toList (i * ty.size + off) c.cells.toList)[j * ty.size + o']'hlt) := by
                    rw [List.getElem?_take, if_pos ho', List.getElem?_drop, List.getElem?_eq_getElem hlt]
                  rw [List.getElem?_eq_getElem hlt]
                  congr 1
                  by_cases hji : j = i
                  · subst hji
                    rw [hmine hle] at hget
                    have := d3 o' _ hget hs'
                    rwa [Nat.zero_add] at this
                  · rw [hothers hle j hji] at hget
                    exact k9 j xs[j] (List.getElem?_eq_getElem hj) o' _ hget hs'
                · exact h.elim
          · exact h.elim
      · exact h.elim

theorem storeV_sound (L : LOk P C) {t : TypeId} {x v : V} {cx c : Value} (hx : VR g M x cx) (hv : VR g M v c) (hr : HR H g M w) {w0 : World} {M0 : Mem} {own0 : Z} (hz : own0.n ≤ C.base) (hb : Base w0 M0 own0 H g M w)
    {K : Heap → Prop} (h : storeV C t x v H K) : ∃ H' w' g', K H' ∧ (Instr.storeAt t cx c).run P w = .ok () w' ∧ HR H' g' M w' ∧ Base w0 M0 own0 H' g' M w' ∧ Ext g M g' M := by
  have plain : (∀ id ver i off, x ≠ .dep id ver i off) → ∃ H' w' g', K H' ∧ (Instr.storeAt t cx c).run P w = .ok () w' ∧ HR H' g' M w' ∧ Base w0 M0 own0 H' g' M w' ∧ Ext g M g' M := by
    intro hnd
    obtain ⟨H', w', k1, k2, k3, k4⟩ := storeV_sound0 L hx hv hr hb h hnd
    exact ⟨H', w', g, k1, k2, k3, k4, Ext.refl _ _⟩
  cases x
  case dep id ver i off => exact storeV_dep L hx hv hr hz hb h
  all_goals exact plain (by intro id ver i off e; cases e)
end
end Go.Ev
