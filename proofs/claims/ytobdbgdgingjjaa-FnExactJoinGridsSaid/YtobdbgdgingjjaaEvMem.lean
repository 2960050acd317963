/- The operations that look into memory, write it or make it do what the evaluator says. -/
import Derived.Test.YtobdbgdgingjjaaEvVal
set_option linter.unusedVariables false
set_option linter.unusedSimpArgs false
namespace Go.Ev

section
variable {P : Program} {C : Ctx} {g : List G} {M : Mem} {w : World} {H : Heap} {K : V → Prop}

theorem beq_false {n m : Nat} (h : Nat.beq n m = false) : n ≠ m := fun e => by subst e; simp at h
theorem beq_true {n m : Nat} (h : Nat.beq n m = true) : n = m := Nat.eq_of_beq_eq_true h

theorem readV_facts (L : LOk P C) {t : TypeId} {cs : List V} (h : readV (C.ti t) cs K) : Facts P t (C.ti t) := by
  unfold readV at h
  cases ha : (C.ti t).agg with
  | true =>
    refine L.get (.inl fun e => ?_)
    unfold TI.agg at ha
    rw [e] at ha
    cases ha
  | false =>
    simp only [ha, cond_false] at h
    cases hz : Nat.beq (C.ti t).size 0 with
    | true => simp [hz] at h
    | false => exact L.get (.inr (beq_false hz))

theorem cellsOf_sound {v : V} {c : Value} (h : VR g M v c) {vs : List V} (hc : cellsOf v = some vs) : VRs g M vs c.cells.toList := by
  cases h <;> simp only [cellsOf] at hc <;> (try (cases hc; done)) <;> cases hc
  case agg cs h => exact h
  case obj id ver ver' sz h h1 h2 h3 h4 =>
    cases c <;> simp [Value.oneCell'] at h4 <;> exact .cons (.obj _ _ _ _ _ _ h1 h2 h3 rfl) .nil
  all_goals exact .cons (by constructor <;> assumption) .nil

theorem one_sound {v : V} {c : Value} (h : VR g M v c) (h1 : one v = true) : c.oneCell' = true := by
  cases h <;> simp [one] at h1 <;> first | rfl | assumption
theorem ones_sound : ∀ {vs : List V} {cs : List Value}, VRs g M vs cs → vs.all one = true → ∀ c ∈ cs, c.oneCell' = true
  | _, _, .nil, _ => by simp
  | _, _, .cons h t, ha => by
    simp at ha
    intro c hc
    simp at hc
    rcases hc with rfl | hc
    · exact one_sound h ha.1
    · exact ones_sound t (by simp; exact ha.2) c hc

theorem loadV_sound (L : LOk P C) {t : TypeId} {x : V} {c : Value} (hx : VR g M x c) (hr : HR H g M w) (h : loadV C t x H K) : SemSt P g M w (Instr.loadAt t c) K := by
  have fin : ∀ {b o : Nat} {ce : Array Value} {T : TypeId} {fz : Nat × Nat} {vs : List V}, c = .pointer (some ⟨b, o, none⟩) → w.heap[b]? = some (.cells ce T fz) → VRs g M vs ((ce.toList.drop o).take vs.length) →
      readV (C.ti t) vs K → SemSt P g M w (Instr.loadAt t c) K := by
    intro b o ce T fz vs e h1 h2 h3
    obtain ⟨v, val, k1, k2, k3⟩ := run_loadVar_cells (readV_facts L h3) h1 o h2 h3
    refine ⟨v, val, k1, k2, ?_⟩
    subst e
    simp [Instr.loadAt, Instr.sureAddr, k3]
  unfold loadV at h
  cases hx <;> simp only at h <;> try exact h.elim
  case ref cells b base off o cs h1 h2 h3 =>
    obtain ⟨ce, T, fz, k1, k2⟩ := hr.mem _ _ h1
    subst k2
    subst h3
    refine fin rfl k1 ?_ h
    have := h2.drop off
    rw [List.drop_take, List.drop_drop] at this
    simpa using this
  case ptr id off b h1 =>
    split at h
    · rename_i cells hid
      have ho := hr.ob id _ _ hid h1
      simp only [ObOk] at ho
      obtain ⟨ce, T, fz, k1, k2, k3, k4⟩ := ho
      refine fin rfl k1 ?_ h
      have := k2.drop off
      have hl := this.length
      rw [show (ce.toList.drop off).take (cells.drop off).length = ce.toList.drop off by rw [hl, List.take_length]]
      exact this
    · exact h.elim
  case eptr id ver ver' sz i off b o hh h1 h2 h3 h4 =>
    split at h
    · rename_i ver2 ty xs hid
      have ho := hr.ob id _ _ hid h1
      simp only [ObOk] at ho
      obtain ⟨rfl, rfl, hpos, ho⟩ := ho
      cases hv : Nat.beq ver ver' with
      | false => simp [hv] at h
      | true =>
        simp only [hv, cond_true] at h
        obtain ⟨n, cc, e1⟩ := h3 (beq_true hv)
        have e2 := h4
        split at h
        · rename_i x hx
          rcases ho with ⟨k0, rfl⟩ | ⟨b', cap, ce, T, fz, k1, k2, k3, k4, k5, k6, k7⟩
          · simp at hx
          · rw [e1] at k1
            simp at k1
            obtain ⟨rfl, rfl, rfl⟩ := k1
            subst e2
            refine fin rfl k2 ?_ h
            have := (k5 i x hx).drop off
            rw [List.drop_take, List.drop_drop] at this
            rw [List.length_drop, enc_length]
            exact this
        · exact h.elim
    · rename_i ver2 ty xs hid
      have ho := hr.ob id _ _ hid h1
      simp only [ObOk] at ho
      obtain ⟨rfl, rfl, ho⟩ := ho
      cases hv : Nat.beq ver ver' with
      | false => simp [hv] at h
      | true =>
        simp only [hv, cond_true] at h
        obtain ⟨n, cc, e1⟩ := h3 (beq_true hv)
        have e2 := h4
        split at h
        · rename_i x hx
          subst e1
          cases ho with
          | vecnil => simp at hx
          | vec _ _ _ _ _ _ cs p1 p2 p3 p4 =>
            obtain ⟨ce, T, fz, k1, k2⟩ := hr.mem _ _ p1
            subst k2
            subst e2
            refine fin rfl k1 ?_ h
            have := (p4 i x hx).drop off
            rw [List.drop_take, List.drop_drop, Nat.zero_add] at this
            rw [List.length_drop, enc_length]
            exact this
        · exact h.elim
    · exact h.elim

theorem run_storeVar_row' {t : TypeId} {i : TI} (F : Facts P t i) {w : World} {b : Nat} {c : Array Value} {T : TypeId} {fz : Nat × Nat} (h : w.heap[b]? = some (.cells c T fz)) (hz : Clear c.size fz) (o : Nat) (v : Value)
    (hs : v.cells.toList.length = i.size) (hl : o + v.cells.toList.length ≤ c.size) (h1 : ∀ u ∈ v.cells.toList, u.oneCell' = true) :
    (storeVar t ⟨b, o, none⟩ v).run P w = .ok () (putRow w b (setAtC c.toList o v.cells.toList).toArray T fz) := by
  have hs' : v.cells.size = i.size := by simpa using hs
  have := run_storeCells_clear P b o T fz v.cells.toList 0 c w h (by simpa using hl) hz h1
  simp only [storeVar, Sem.run_bind, F.run_sizeOf, Result.andThen_ok, hs', ne_eq, not_true_eq_false, if_false, Sem.run_pure]
  simpa using this

theorem take_setAtC : ∀ (ds : List Value) (cs : List Value) (i m n : Nat), i + ds.length ≤ n →
    ((setAtC cs (m + i) ds).drop m).take n = setAtC ((cs.drop m).take n) i ds
  | [], cs, i, m, n, _ => rfl
  | d :: ds, cs, i, m, n, h => by
    simp at h
    simp only [setAtC]
    rw [show m + i + 1 = m + (i + 1) by omega, take_setAtC ds _ (i + 1) m n (by omega)]
    congr 1
    rw [List.drop_set]
    rw [if_neg (by omega), List.take_set, show m + i - m = i by omega]

theorem drop_setAtC_other : ∀ (ds : List Value) (cs : List Value) (i m n : Nat), (m + n ≤ i ∨ i + ds.length ≤ m) →
    ((setAtC cs i ds).drop m).take n = (cs.drop m).take n
  | [], cs, i, m, n, _ => rfl
  | d :: ds, cs, i, m, n, h => by
    simp at h
    simp only [setAtC]
    rw [drop_setAtC_other ds _ (i + 1) m n (by omega)]
    apply List.ext_getElem?
    intro j
    simp only [List.getElem?_take, List.getElem?_drop]
    split
    · rw [List.getElem?_set_ne (by omega)]
    · rfl

theorem toArray_size (l : List Value) : l.toArray.size = l.length := by simp

theorem storeV_sound (L : LOk P C) {t : TypeId} {x v : V} {cx c : Value} (hx : VR g M x cx) (hv : VR g M v c) (hr : HR H g M w) {w0 : World} {M0 : Mem} {own0 : Z} (hb : Base w0 M0 own0 H g M w)
    {K : Heap → Prop} (h : storeV C t x v H K) : ∃ H' w', K H' ∧ (Instr.storeAt t cx c).run P w = .ok () w' ∧ HR H' g M w' ∧ Base w0 M0 own0 H' g M w' := by
  unfold storeV at h
  cases hc : cellsOf v with
  | none => simp [hc] at h
  | some vs =>
    simp only [hc] at h
    have hvs := cellsOf_sound hv hc
    cases hq : (Nat.beq vs.length (C.ti t).size && !Nat.beq (C.ti t).size 0 && vs.all one) with
    | false => simp [hq] at h
    | true =>
      simp only [hq, cond_true] at h
      simp only [Bool.and_eq_true] at hq
      obtain ⟨⟨q1, q2⟩, q3⟩ := hq
      have q1 := beq_true q1
      have F := L.get (t := t) (.inr (fun e => by rw [e] at q2; cases q2))
      have hl := hvs.length
      have ho := ones_sound hvs q3
      cases hx <;> simp only at h <;> try exact h.elim
      case ptr id off b h1 =>
        split at h
        · rename_i cells hid
          have hob := hr.ob id _ _ hid h1
          simp only [ObOk] at hob
          obtain ⟨ce, T, fz, k1, k2, k3, k4⟩ := hob
          cases hle : Nat.ble (off + vs.length) cells.length with
          | false => simp [hle] at h
          | true =>
            simp only [hle, cond_true] at h
            have hle := Nat.le_of_ble_eq_true hle
            have hlen := k2.length
            refine ⟨_, putRow w b (setAtC ce.toList off c.cells.toList).toArray T fz, h, ?_, hr.write (b := b) hid h1 rfl (fun _ h => h) ?_, hb.write (b := b) hid h1 rfl (fun _ h => h)⟩
            · simp only [Instr.storeAt, Instr.sureAddr, Sem.run_bind, Sem.run_pure, Result.andThen_ok]
              exact run_storeVar_row' F k1 k3 off c (by omega) (by rw [← hl]; simp at hlen; omega) ho
            · simp only [ObOk]
              refine ⟨_, T, fz, putRow_get (lt_of_cells k1), ?_, ?_, k4⟩
              · exact hvs.setAt k2 off
              · rw [toArray_size, setAtC_length]; simpa using k3
        · exact h.elim
      case eptr id ver ver' sz i off b o hh h1 h2 h3 h4 =>
        split at h
        · rename_i ver2 ty xs hid
          have hob := hr.ob id _ _ hid h1
          have hob' := hob
          simp only [ObOk] at hob
          obtain ⟨rfl, rfl, hpos, hob⟩ := hob
          cases hve : Nat.beq ver ver' with
          | false => simp [hve] at h
          | true =>
            simp only [hve, cond_true] at h
            obtain ⟨n, cc, e1⟩ := h3 (beq_true hve)
            have e2 := h4
            split at h
            · rename_i x hxi
              cases hle : Nat.ble (off + vs.length) ty.size with
              | false => simp [hle] at h
              | true =>
                simp only [hle, cond_true] at h
                have hle := Nat.le_of_ble_eq_true hle
                split at h
                · rename_i x' hdec
                  rcases hob with ⟨k0, rfl⟩ | ⟨b', cap, ce, T, fz, k1, k2, k3, k4, k5, k6, k7⟩
                  · simp at hxi
                  · rw [e1] at k1
                    simp at k1
                    obtain ⟨rfl, rfl, rfl⟩ := k1
                    have hi : i < xs.length := by
                      rcases Nat.lt_or_ge i xs.length with h' | h'
                      · exact h'
                      · simp [List.getElem?_eq_none h'] at hxi
                    have hmul : (i + 1) * ty.size ≤ cc * ty.size := Nat.mul_le_mul_right _ (by omega)
                    rw [Nat.succ_mul] at hmul
                    have hown : ownB (.sl ver' ty xs) (.sl hh ver' ty.size) b := by rw [e1]; rfl
                    have hown' : ∀ b', ownB (.sl ver' ty (xs.set i x')) (.sl hh ver' ty.size) b' → ownB (.sl ver' ty xs) (.sl hh ver' ty.size) b' := by rw [e1]; exact fun _ h => h
                    refine ⟨_, putRow w b (setAtC ce.toList (i * ty.size + off) c.cells.toList).toArray T fz, h, ?_, hr.write (b := b) hid h1 hown hown' ?_, hb.write (b := b) hid h1 hown hown'⟩
                    · subst e2
                      simp only [Instr.storeAt, Instr.sureAddr, Sem.run_bind, Sem.run_pure, Result.andThen_ok]
                      exact run_storeVar_row' F k2 k6 _ c (by omega) (by rw [← hl]; omega) ho
                    · simp only [ObOk]
                      refine ⟨trivial, trivial, ⟨hpos.1, by rw [List.length_set]; exact hpos.2⟩, .inr ⟨b, cc, _, T, fz, ?_, putRow_get (lt_of_cells k2), ?_, ?_, ?_, ?_, k7⟩⟩
                      · rw [List.length_set]; exact e1
                      · rw [List.length_set]; exact k3
                      · rw [toArray_size, setAtC_length]; simpa using k4
                      · intro j y hj
                        by_cases hji : i = j
                        · subst hji
                          rw [List.getElem?_set] at hj
                          simp [hi] at hj
                          subst hj
                          show VRs g M _ (((setAtC ce.toList (i * ty.size + off) c.cells.toList).drop (i * ty.size)).take ty.size)
                          rw [take_setAtC _ _ _ _ _ (by omega)]
                          have hset := hvs.setAt (k5 i x hxi) off
                          have := (dec_sound ty hdec hset).1
                          rw [List.take_of_length_le (by rw [setAtC_length, List.length_take]; omega)] at this
                          exact this
                        · rw [List.getElem?_set_ne hji] at hj
                          show VRs g M _ (((setAtC ce.toList (i * ty.size + off) c.cells.toList).drop (j * ty.size)).take ty.size)
                          rw [drop_setAtC_other]
                          · exact k5 j y hj
                          · rcases Nat.lt_or_ge i j with hlt | hge
                            · right
                              have := Nat.mul_le_mul_right ty.size (show i + 1 ≤ j by omega)
                              rw [Nat.succ_mul] at this
                              omega
                            · left
                              have := Nat.mul_le_mul_right ty.size (show j + 1 ≤ i by omega)
                              rw [Nat.succ_mul] at this
                              omega
                      · rw [toArray_size, setAtC_length]; simpa using k6
                · exact h.elim
            · exact h.elim
        · exact h.elim
      case bptr id b buf h1 =>
        split at h
        · rename_i T e hid
          have hob := hr.ob id _ _ hid h1
          simp only [ObOk] at hob
          obtain ⟨p, v0, k1, k2, k3, k4, k5, k6, k7, k8⟩ := hob
          have k8 := k8 trivial
          subst k8
          split at h
          · cases hT : Nat.beq T t with
            | false => simp [hT] at h
            | true =>
              simp only [hT, cond_true] at h
              have hcc : c.cells.toList = [.pointer none, .slice none 0 0] := by
                generalize c.cells.toList = cl at hvs
                cases hvs with
                | cons a r =>
                  cases r with
                  | cons a' r =>
                    cases r
                    cases a; cases a'
                    rfl
              have hset : (setAtC (#[p, .slice none 0 0] : Array Value).toList 0 c.cells.toList).toArray = #[.pointer none, .slice none 0 0] := by rw [hcc]; rfl
              have hw := hr.write (o' := .bld T e []) (b := b) (c := (setAtC (#[p, .slice none 0 0] : Array Value).toList 0 c.cells.toList).toArray) (T := T) (fz := (0, 0)) hid h1 (.inl rfl) (fun _ h => h) (by
                simp only [ObOk]
                exact ⟨.pointer none, .slice none 0 0, by rw [hset]; exact putRow_get (lt_of_cells k1), .inl rfl, ⟨rfl, .inl ⟨rfl, rfl⟩⟩, k4, k5, k6, k7, fun _ => rfl⟩)
              have hbw := hb.write (o' := .bld T e []) (b := b) (c := (setAtC (#[p, .slice none 0 0] : Array Value).toList 0 c.cells.toList).toArray) (T := T) (fz := (0, 0)) hid h1 (.inl rfl) (fun _ h => h)
              have hset : H.set id (.bld T e []) = H := by
                refine List.ext_getElem? fun j => ?_
                rw [List.getElem?_set]
                split
                · rename_i e'
                  subst e'
                  rw [hid]
                  simp [(List.getElem?_eq_some_iff.1 hid).1]
                · rfl
              rw [hset] at hw hbw
              refine ⟨_, _, h, ?_, hw, hbw⟩
              simp only [Instr.storeAt, Instr.sureAddr, Sem.run_bind, Sem.run_pure, Result.andThen_ok]
              exact run_storeVar_row' F k1 (fun i _ h => by omega) 0 c (by omega) (by rw [hcc]; exact Nat.le_refl 2) ho
          · exact h.elim
        · exact h.elim

end
end Go.Ev
