/- Slices that are made, grown and cut. -/
import Derived.Test.YtfdalaakechldaaEvCall
import Derived.Laws.MakeOwn
import Derived.Lib.AppendZerosOnto
set_option linter.unusedVariables false
set_option linter.unusedSimpArgs false
namespace Go.Ev

section
variable {P : Program} {C : Ctx} {g : List G} {M : Mem} {w : World} {H : Heap}

theorem ones_enc : ∀ (t : Ty) (x : t.den), (enc t x).all one = true
  | .int _, _ => rfl
  | .float _, _ => rfl
  | .bool, _ => rfl
  | .str, _ => rfl
  | .slice _, _ => rfl
  | .pair a b, x => by simp only [enc, List.all_append, ones_enc a x.1, ones_enc b x.2]; rfl
  | .unit, _ => rfl

theorem buildSliceV_sound (L : LOk P C) (hr : HR H g M w) {w0 : World} {M0 : Mem} {own0 : Z} (hb : Base w0 M0 own0 H g M w) {t : TypeId} {len : Nat} (ps : Array (Nat × Operand)) (ρ : Operand → V) (ev : Operand → Value)
    (hρ : ∀ p ∈ ps.toList, VR g M (ρ p.2) (ev p.2)) {K : V → Heap → Prop} (h : buildSliceV C t len (ps.toList.map fun p => (p.1, ρ p.2)) H K) :
    ∃ v H' val g' M' w', K v H' ∧ (Instr.buildSlice t len (ps.map fun (i, x) => (i, ev x))).run P w = .ok val w' ∧ VR g' M' v val ∧ HR H' g' M' w' ∧ Base w0 M0 own0 H' g' M' w' ∧ Ext g M g' M' := by
  have hl : (ps.map fun (i, x) => (i, ev x)).toList = ps.toList.map fun p => (p.1, ev p.2) := by simp
  unfold buildSliceV at h
  split at h
  · rename_i e hd
    have F := L.get (t := t) (.inl (by rw [hd]; simp))
    have Fu := F.under
    rw [hd] at Fu
    cases hq : (Nat.beq (C.ti e).size (C.ti t).ty.size && Nat.ble (len * (C.ti e).size) 16777216 && !Nat.beq (C.ti e).size 0 && Nat.beq (zeroCells (C.ti e)).length (C.ti e).size) with
    | false => simp [hq] at h
    | true =>
      simp only [hq, cond_true] at h
      simp only [Bool.and_eq_true] at hq
      obtain ⟨⟨⟨q1, q2⟩, q3⟩, q4⟩ := hq
      have q1 := beq_true q1
      have q2 := Nat.le_of_ble_eq_true q2
      have q3' : (C.ti e).size ≠ 0 := fun e' => by rw [e'] at q3; cases q3
      have q4 := beq_true q4
      have Fe := L.get (t := e) (.inr q3')
      split at h
      · rename_i cs hcs
        have hzv : VRs g M (zeroCells (C.ti e)) (C.ti e).zero.cells.toList := VRs_ofVal1 g M _
        have hzl := hzv.length
        rw [q4] at hzl
        simp only [Array.length_toList] at hzl
        have hz := rep_sound hzv len
        rw [← zeros_list _ _ hzl.symm q3'] at hz
        obtain ⟨ds, h1, h2⟩ := fillV_sound _ ρ ev ps.toList _ _ cs hρ hz hcs
        have hrun : (Instr.buildSlice t len (ps.map fun (i, x) => (i, ev x))).run P w = .ok (.slice (some ⟨w.heap.size, 0, none⟩) len len) (w.alloc (.cells ds e)) := by
          simp only [Instr.buildSlice, Sem.run_bind, Go.run_underlying Fu, Result.andThen_ok, Fe.run_sizeOf]
          rw [if_neg (by omega)]
          by_cases hl0 : len = 0
          · subst hl0
            have hps : Instr.fill (fun i => some (i * (C.ti e).size, (C.ti e).size)) (Array.map (fun _ => (default : Value)) (Array.range 0)) (ps.toList.map fun p => (p.1, ev p.2)) = some ds := by
              rw [← h1]; congr 1; simp
            simp [newRow]
            rw [hps]
            rfl
          · have hne : len * (C.ti e).size ≠ 0 := by
              intro e'
              rcases Nat.mul_eq_zero.1 e' with a | a <;> omega
            simp only [if_neg hne, Sem.run_bind, Fe.run_zeroValue, Result.andThen_ok, Sem.run_pure, hl, h1, newRow, run_newObj, World.alloc_eq]
        have hcell : (w.alloc (.cells ds e)).heap[w.heap.size]? = some (.cells ds e (0, 0)) := by simp [World.alloc_eq, World.alloc, -World.alloc_eq]
        have hMn : M w.heap.size = none := by
          cases hm : M w.heap.size with
          | none => rfl
          | some cs' =>
            obtain ⟨c', T', fz', k1, k2⟩ := hr.mem _ _ hm
            have := lt_of_cells k1
            omega
        have hmullen : len ≤ len * (C.ti e).size := Nat.le_mul_of_pos_right len (show 0 < (C.ti e).size by omega)
        cases hdr : (C.dr && Nat.beq len 0) with
        | true =>
          simp only [hdr, cond_true] at h
          simp only [Bool.and_eq_true] at hdr
          have hl0 := beq_true hdr.2
          subst hl0
          have hold : ∀ b, b < w.heap.size → (w.alloc (.cells ds e)).heap[b]? = w.heap[b]? := by
            intro b hb'
            show (w.heap.push _)[b]? = _
            rw [Array.getElem?_push, if_neg (by omega)]
          refine ⟨_, _, _, g, M, _, h, hrun, .empty false true _ 0 rfl (fun _ => rfl), ⟨hr.len, fun id o x h1 h2 => ?_, hr.apart, fun b cs hm => ?_⟩, ⟨?_, fun b hb' hn => ?_, fun b hb' => hb.own b hb', hb.mle, hb.mnew, hb.os, hb.tape, hb.output, hb.gbox⟩, Ext.refl g M⟩
          · exact ObOk.mono (Ext.refl g M) (fun b hb' => hold b (Ev.own_lt (hr.ob id o x h1 h2) hb').1) (hr.ob id o x h1 h2)
          · obtain ⟨c, T, fz, k1, k2⟩ := hr.mem b cs hm
            exact ⟨c, T, fz, (hold b (lt_of_cells k1)).trans k1, k2⟩
          · have := hb.size
            simp
            omega
          · have := hb.size
            exact (hold b (by omega)).trans (hb.keep b hb' hn)
        | false =>
        simp only [hdr, cond_false] at h
        cases hdv : (C.dr && (C.mv && flatTy (C.ti t).ty)) with
        | true =>
          simp only [hdv, cond_true] at h
          split at h
          · rename_i xs hxs
            obtain ⟨d1, d2, d3⟩ := decN_sound _ len hxs h2
            have hold : ∀ b, b < w.heap.size → (w.alloc (.cells ds e)).heap[b]? = w.heap[b]? := by
              intro b hb'
              show (w.heap.push _)[b]? = _
              rw [Array.getElem?_push, if_neg (by omega)]
            have hle : ∀ b cs, M b = some cs → (fun b => if b = w.heap.size then some ds.toList else M b) b = some cs := by
              intro b cs hm
              obtain ⟨c', T', fz', k1, k2⟩ := hr.mem _ _ hm
              have := lt_of_cells k1
              show (if b = w.heap.size then some ds.toList else M b) = some cs
              rw [if_neg (by omega)]
              exact hm
            have F : Frame0 w (w.alloc (.cells ds e)) M (fun b => if b = w.heap.size then some ds.toList else M b) := ⟨by simp, hold, hle, fun b cs hm => by
              by_cases hbs : b = w.heap.size
              · exact .inr (by omega)
              · simp only [if_neg hbs] at hm
                exact .inl hm, rfl, rfl, rfl⟩
            have hmem : MemOk (fun b => if b = w.heap.size then some ds.toList else M b) (w.alloc (.cells ds e)) := by
              intro b cs hm
              by_cases hbs : b = w.heap.size
              · subst hbs
                simp only [↓reduceIte, Option.some.injEq] at hm
                subst hm
                exact ⟨ds, e, (0, 0), hcell, rfl⟩
              · simp only [if_neg hbs] at hm
                obtain ⟨c, T, fz, k1, k2⟩ := hr.mem b cs hm
                exact ⟨c, T, fz, (hold b (lt_of_cells k1)).trans k1, k2⟩
            refine ⟨_, _, _, g, _, _, h, hrun, ?_, hr.frame F hmem, hb.frame F, Ext.mem hle⟩
            refine .vec (C.ti t).ty xs w.heap.size 0 len len ds.toList (if_pos rfl) ⟨d1.symm, by omega⟩ (Nat.le_refl _) fun i x hx => ?_
            rw [Nat.zero_add]
            exact (d3 i x hx).mono (Ext.mem hle)
          · exact h.elim
        | false =>
        simp only [hdv, cond_false] at h
        cases hdp : (C.deep && !flatTy (C.ti t).ty) with
        | true =>
          simp only [hdp, cond_true] at h
          split at h
          · rename_i xs Ls hxs
            cases hnb : nodupB Ls with
            | false => simp only [hnb, cond_false] at h
            | true =>
              simp only [hnb, cond_true] at h
              obtain ⟨bss, d1, d2, d3, d4, d5, d6⟩ := decOwN_sound hr (C.ti t).ty len hxs h2 (nodupB_ok hnb)
              have hold : ∀ b, b < w.heap.size → (w.alloc (.cells ds e)).heap[b]? = w.heap[b]? := by
                intro b hb'
                show (w.heap.push _)[b]? = _
                rw [Array.getElem?_push, if_neg (by omega)]
              have hlt : ∀ b, OwnIn H g Ls b → b < w.heap.size ∧ M b = none := by
                rintro b ⟨j, hj, o1, y1, m1, m2, m3⟩
                exact Ev.own_lt (hr.ob j o1 y1 m1 m2) m3
              have hfinal := adopt_push (L := Ls) (w' := w.alloc (.cells ds e)) (o' := .dp 0 0 (C.ti t).ty xs) (x' := .dp (.slice (some ⟨w.heap.size, 0, none⟩) len len) 0 0 (C.ti t).ty.size (w.heap.size :: bss.flatten) (fun k => (ds.toList[k]?).getD Go.undef)) hr hb
                (by simp) rfl rfl rfl (fun b hb' _ => hold b hb') ?_ ?_
              · refine ⟨_, _, _, _, M, _, h, hrun, ?_, hfinal.1, hfinal.2.1, hfinal.2.2⟩
                exact .dob _ 0 0 0 _ _ _ _ _ (by rw [hr.len, List.getElem?_append_right (Nat.le_refl _), Nat.sub_self]; rfl) (Nat.le_refl _) (fun _ => rfl) rfl
              · simp only [ObOk]
                refine ⟨⟨trivial, trivial, trivial⟩, ⟨_, rfl, by omega, by rw [← q1]; omega, .inr ⟨w.heap.size, len, ds, e, (0, 0), bss, by rw [d1], hcell, by omega, by simp at d3; omega, clearT_zero _ _, rfl, by omega, ?_⟩⟩, ?_, ?_, ?_⟩
                · intro i x bi hx hbi
                  refine DC_frame _ (fun b hb' => hold b (hlt b (d5 b (List.mem_flatten.2 ⟨bi, List.mem_of_getElem? hbi, hb'⟩))).1) (d6 i x bi hx hbi)
                · rw [List.nodup_cons]
                  exact ⟨fun hm => by have := (hlt _ (d5 _ hm)).1; omega, d4⟩
                · intro b hb'
                  rcases List.mem_cons.1 hb' with rfl | hb'
                  · exact hMn
                  · exact (hlt b (d5 b hb')).2
                · intro b n' cap' c' T' fz' e' hc' i o' hi ho' hs'
                  cases e'
                  rw [hcell] at hc'
                  cases hc'
                  have hlt2 : i * (C.ti t).ty.size + o' < ds.toList.length := by
                    have : (i + 1) * (C.ti t).ty.size ≤ len * (C.ti t).ty.size := Nat.mul_le_mul_right _ (by omega)
                    rw [Nat.succ_mul] at this
                    omega
                  rw [List.getElem?_eq_getElem hlt2]
                  rfl
              · intro b hb'
                rcases List.mem_cons.1 hb' with rfl | hb'
                · exact .inr (Nat.le_refl _)
                · exact .inl (d5 b hb')
          · exact h.elim
        | false =>
        simp only [hdp, cond_false] at h
        split at h
        · rename_i xs hxs
          obtain ⟨d1, d2, d3⟩ := decN_sound _ len hxs h2
          have hE := Ext.snoc g M (.sl (.slice (some ⟨w.heap.size, 0, none⟩) len len) 0 (C.ti t).ty.size)
          have hownb : ∀ b, ownB (.sl 0 (C.ti t).ty xs) (.sl (.slice (some ⟨w.heap.size, 0, none⟩) len len) 0 (C.ti t).ty.size) b → b = w.heap.size := by
            intro b hb'; simp [ownB] at hb'; exact hb'.symm
          refine ⟨_, _, .slice (some ⟨w.heap.size, 0, none⟩) len len, g ++ [.sl (.slice (some ⟨w.heap.size, 0, none⟩) len len) 0 (C.ti t).ty.size], M, w.alloc (.cells ds e), h, hrun, ?_, hr.push ?_ hownb, hb.push hr.len hownb, hE⟩
          · exact .obj _ 0 0 (C.ti t).ty.size (.slice (some ⟨w.heap.size, 0, none⟩) len len) _ (by rw [hr.len, List.getElem?_append_right (Nat.le_refl _)]; simp) (Nat.le_refl _) (fun _ => rfl) rfl
          · simp only [ObOk]
            refine ⟨trivial, trivial, ⟨by rw [← q1]; omega, by rw [d1]; omega⟩, .inr ⟨w.heap.size, len, ds, e, (0, 0), by rw [d1], hcell, by omega, by simp at d2; omega, ?_, clearT_zero _ _, hMn⟩⟩
            intro i x hx; exact (d3 i x hx).mono hE
        · exact h.elim
      · exact h.elim
  · exact h.elim

/-- A row of elements, chunk by chunk. -/
def Chunks (g : List G) (M : Mem) (t : Ty) (xs : List t.den) (cs : List Value) : Prop := ∀ i x, xs[i]? = some x → VRs g M (enc t x) ((cs.drop (i * t.size)).take t.size)

theorem Chunks.length {t : Ty} {xs : List t.den} {cs : List Value} (h : Chunks g M t xs cs) : xs.length * t.size ≤ cs.length := by
  rcases Nat.eq_zero_or_pos t.size with e0 | e0
  · rw [e0, Nat.mul_zero]; exact Nat.zero_le _
  rcases Nat.eq_zero_or_pos xs.length with e | e
  · rw [e, Nat.zero_mul]; exact Nat.zero_le _
  · have h1 := (h (xs.length - 1) _ (List.getElem?_eq_getElem (by omega))).length
    rw [enc_length, List.length_take, List.length_drop] at h1
    have : xs.length * t.size = (xs.length - 1) * t.size + t.size := by
      rw [← Nat.succ_mul]; congr 1; omega
    omega

theorem Chunks.take {t : Ty} {xs : List t.den} {cs : List Value} (h : Chunks g M t xs cs) : Chunks g M t xs (cs.take (xs.length * t.size)) := by
  intro i x hx
  have := h i x hx
  have hi := lt_of_get hx
  rw [List.drop_take, List.take_take, Nat.min_eq_left]
  · exact this
  · have := Nat.mul_le_mul_right t.size (show i + 1 ≤ xs.length by omega)
    rw [Nat.succ_mul] at this
    omega

theorem Chunks.one {t : Ty} {xs : List t.den} {cs : List Value} (h : Chunks g M t xs cs) (hp : 0 < t.size) (hl : cs.length = xs.length * t.size) : ∀ c ∈ cs, c.oneCell' = true := by
  intro c hc
  obtain ⟨j, hj⟩ := List.mem_iff_getElem?.1 hc
  have hjl := lt_of_get hj
  have hi : j / t.size < xs.length := by rw [Nat.div_lt_iff_lt_mul hp]; omega
  have h1 := h (j / t.size) _ (List.getElem?_eq_getElem hi)
  refine ones_sound h1 (ones_enc t _) c ?_
  refine List.mem_iff_getElem?.2 ⟨j % t.size, ?_⟩
  rw [List.getElem?_take, if_pos (Nat.mod_lt _ hp), List.getElem?_drop]
  have : j / t.size * t.size + j % t.size = j := by rw [Nat.mul_comm]; exact Nat.div_add_mod j t.size
  rw [this]; exact hj

theorem Chunks.append {t : Ty} {xs ys : List t.den} {cs ds : List Value} (h : Chunks g M t xs cs) (hl : cs.length = xs.length * t.size) (h' : Chunks g M t ys ds) : Chunks g M t (xs ++ ys) (cs ++ ds) := by
  intro i x hx
  by_cases hi : i < xs.length
  · rw [List.getElem?_append_left hi] at hx
    have := h i x hx
    have hm := Nat.mul_le_mul_right t.size (show i + 1 ≤ xs.length by omega)
    rw [Nat.succ_mul] at hm
    rw [List.drop_append_of_le_length (by omega), List.take_append_of_le_length (by rw [List.length_drop]; omega)]
    exact this
  · rw [List.getElem?_append_right (by omega)] at hx
    have := h' _ x hx
    have hm := Nat.mul_le_mul_right t.size (show xs.length ≤ i by omega)
    rw [List.drop_append, List.drop_eq_nil_of_le (by omega), List.nil_append]
    rw [show i * t.size - cs.length = (i - xs.length) * t.size by rw [hl, Nat.sub_mul]]
    exact this

theorem Chunks.more {t : Ty} {xs : List t.den} {cs ds : List Value} (h : Chunks g M t xs cs) (hl : xs.length * t.size ≤ cs.length) : Chunks g M t xs (cs ++ ds) := by
  intro i x hx
  have := h i x hx
  have hi := lt_of_get hx
  have hm := Nat.mul_le_mul_right t.size (show i + 1 ≤ xs.length by omega)
  rw [Nat.succ_mul] at hm
  rw [List.drop_append_of_le_length (by omega), List.take_append_of_le_length (by rw [List.length_drop]; omega)]
  exact this

/-- Where a slice's elements lie. -/
structure Lies (g : List G) (M : Mem) (w : World) (t : Ty) (ys : List t.den) (c : Value) (ad : Option Addr) (cap : Nat) (news : List Value) : Prop where
  val : c = .slice ad ys.length cap
  len : news.length = ys.length * t.size
  cells : (ys = [] ∧ news = []) ∨ ∃ a, ad = some a ∧ ∀ j u, news[j]? = some u → w.cell? (a.add j) = some u
  chunks : Chunks g M t ys news
  small : ys.length ≤ 9223372036854775807

theorem lies_vec (hm : MemOk M w) {t : Ty} {ys : List t.den} {c : Value} {g' : List G} (hv : VR g' M (.vec t ys) c) : ∃ ad cap news, Lies g M w t ys c ad cap news := by
  cases hv with
  | vecnil _ ad cap => exact ⟨ad, cap, [], rfl, by simp, .inl ⟨rfl, rfl⟩, by intro i x hx; simp at hx, by simp⟩
  | vec _ _ b off n cap cs h1 h2 h3 h4 =>
    obtain ⟨ce, T, fz, k1, k2⟩ := hm _ _ h1
    have hch : Chunks g M t ys (cs.drop off) := by
      intro i x hx
      have := h4 i x hx
      rw [List.drop_drop]
      exact this.imm (immuts_enc t x)
    have hl := hch.length
    refine ⟨some ⟨b, off, none⟩, cap, (cs.drop off).take (ys.length * t.size), by rw [← h2.1], by rw [List.length_take]; omega, .inr ⟨_, rfl, ?_⟩, hch.take, by rw [← h2.1]; exact h2.2⟩
    intro j u hu
    rw [Addr.add_lit, cell?_row k1]
    rw [List.getElem?_take] at hu
    split at hu
    · rw [List.getElem?_drop, ← k2] at hu
      simpa using hu
    · cases hu

theorem lies_sl {ver ver' sz : Nat} {t : Ty} {ys : List t.den} {h : Value} (ho : ObOk g M w (.sl ver t ys) (.sl h ver' sz)) : ∃ ad cap news, Lies g M w t ys h ad cap news := by
  simp only [ObOk] at ho
  obtain ⟨_, _, hlen, ho⟩ := ho
  rcases ho with ⟨rfl, rfl⟩ | ⟨b, cap, c, T, fz, rfl, k2, k3, k4, k5, k6, k7⟩
  · exact ⟨none, 0, [], rfl, by simp, .inl ⟨rfl, rfl⟩, by intro i x hx; simp at hx, by simp⟩
  · have hch : Chunks g M t ys c.toList := k5
    have hl := hch.length
    refine ⟨some ⟨b, 0, none⟩, cap, c.toList.take (ys.length * t.size), rfl, by rw [List.length_take]; omega, .inr ⟨_, rfl, ?_⟩, hch.take, hlen.2⟩
    intro j u hu
    rw [Addr.add_lit, cell?_row k2]
    rw [List.getElem?_take] at hu
    split at hu
    · simpa using hu
    · cases hu

theorem listOf_sound (hr : HR H g M w) {t : Ty} {v : V} {c : Value} (hv : VR g M v c) {ys : List t.den} (h : listOf H t v = some ys) : ∃ ad cap news, Lies g M w t ys c ad cap news := by
  unfold listOf at h
  split at h
  · rename_i t' xs
    split at h
    · rename_i e
      subst e
      cases h
      exact lies_vec hr.mem hv
    · cases h
  · cases h
    cases hv
    exact ⟨none, 0, [], rfl, by simp, .inl ⟨rfl, rfl⟩, by intro i x hx; simp at hx, by simp⟩
  · cases h
    cases hv with
    | empty _ _ ad cap _ => exact lies_vec (g' := g) hr.mem (.vecnil t ad cap)
  · rename_i id ver
    cases hv with
    | obj _ _ ver' sz hh _ h1 h2 h3 h4 =>
      split at h
      · rename_i ver2 t' xs hid
        have ho := hr.ob id _ _ hid h1
        cases hbq : Nat.beq ver ver2 with
        | false => simp [hbq] at h
        | true =>
          simp only [hbq, cond_true] at h
          split at h
          · rename_i e
            subst e
            cases h
            have ho' := ho
            simp only [ObOk] at ho'
            rw [h3 (by rw [ho'.1]; exact beq_true hbq)]
            exact lies_sl ho
          · cases h
      · rename_i ver2 t' xs hid
        have ho := hr.ob id _ _ hid h1
        cases hbq : Nat.beq ver ver2 with
        | false => simp [hbq] at h
        | true =>
          simp only [hbq, cond_true] at h
          split at h
          · rename_i e
            subst e
            cases h
            simp only [ObOk] at ho
            rw [h3 (by rw [ho.1]; exact beq_true hbq)]
            exact lies_vec hr.mem ho.2.2
          · cases h
      · cases h
  · cases h

/-- What a slice that changes becomes. -/
def Made (P : Program) (w0 : World) (M0 : Mem) (own0 : Z) (H : Heap) (g : List G) (M : Mem) (w : World) (s : Sem Value) (K : V → Heap → Prop) : Prop :=
  ∃ v H' val g' M' w', K v H' ∧ s.run P w = .ok val w' ∧ VR g' M' v val ∧ HR H' g' M' w' ∧ Base w0 M0 own0 H' g' M' w' ∧ Ext g M g' M'

structure ElemFacts (P : Program) (C : Ctx) (t e : TypeId) : Prop where
  under : P.underlying t = some (.slice e)
  info : ∃ x, P.info? e = some x ∧ x.size = (C.ti t).ty.size ∧ x.bytes = (C.ti e).bytes ∧ x.zero = some (C.ti e).zero
  pos : 0 < (C.ti t).ty.size
  bpos : 0 < (C.ti e).bytes
  zl : (C.ti e).zero.cells.size = (C.ti t).ty.size

theorem elemOk_sound (L : LOk P C) {t e : TypeId} (hd : (C.ti t).desc = .slice e) (h : elemOk C t e = true) : ElemFacts P C t e := by
  unfold elemOk at h
  simp only [Bool.and_eq_true] at h
  obtain ⟨⟨⟨h1, h2⟩, h3⟩, h4⟩ := h
  have h1 := beq_true h1
  have h4 := beq_true h4
  have h2' : (C.ti e).size ≠ 0 := fun e' => by rw [e'] at h2; cases h2
  have h3' : (C.ti e).bytes ≠ 0 := fun e' => by rw [e'] at h3; cases h3
  have F := L.get (t := t) (.inl (by rw [hd]; simp))
  have Fe := L.get (t := e) (.inr h2')
  have Fu := F.under
  rw [hd] at Fu
  obtain ⟨x, k1, k2, k3, k4⟩ := Fe.info
  refine ⟨Fu, ⟨x, k1, by rw [k2, h1], k3, k4⟩, by omega, by omega, ?_⟩
  have := (VRs_ofVal1 ([] : List G) (fun _ => none) (C.ti e).zero.cells.toList).length
  simp only [List.length_map, Array.length_toList] at this
  unfold zeroCells at h4
  simp at h4
  omega

theorem makeSliceV_sound (L : LOk P C) (hr : HR H g M w) {w0 : World} {M0 : Mem} {own0 : Z} (hb : Base w0 M0 own0 H g M w) {t : TypeId} {l c : V} {vl vc : Value} (hl : VR g M l vl) (hc : VR g M c vc)
    {K : V → Heap → Prop} (h : makeSliceV C t l c H K) : Made P w0 M0 own0 H g M w (Instr.makeSlice t vl vc) K := by
  unfold makeSliceV at h
  split at h
  · rename_i e hd
    cases hq : elemOk C t e with
    | false => simp only [hq, cond_false] at h
    | true =>
      simp only [hq, cond_true] at h
      have E := elemOk_sound L hd hq
      obtain ⟨x, i1, i2, i3, i4⟩ := E.info
      split at h
      · rename_i kl n
        split at h
        · rename_i kc m
          cases hl with
          | int _ _ rl =>
          cases hc with
          | int _ _ rc =>
          have hlist0 : (madeCells (C.ti e).zero.cells (m.toNat * x.size)).toList = (List.replicate m.toNat (C.ti e).zero.cells.toList).flatten := by
            rw [i2]
            exact zeros_list _ _ E.zl (by have := E.pos; omega) m.toNat
          have hzl0 : (C.ti e).zero.cells.toList.length = (C.ti t).ty.size := by simp [E.zl]
          have hpart : ∀ i, i < m.toNat → (((List.replicate m.toNat (C.ti e).zero.cells.toList).flatten).drop (i * (C.ti t).ty.size)).take (C.ti t).ty.size = (C.ti e).zero.cells.toList := by
            intro i hi
            have hsp : m.toNat = i + (1 + (m.toNat - i - 1)) := by omega
            rw [hsp, ← List.replicate_append_replicate, List.flatten_append]
            have hfl : ∀ k, (List.replicate k (C.ti e).zero.cells.toList).flatten.length = k * (C.ti t).ty.size := by
              intro k
              rw [List.length_flatten]
              simp [hzl0]
            rw [List.drop_left' (hfl i), ← List.replicate_append_replicate, List.flatten_append]
            simp only [List.replicate_one, List.flatten_cons, List.flatten_nil, List.append_nil]
            rw [List.take_left' hzl0]
          cases hdp : (C.deep && !flatTy (C.ti t).ty) with
          | true =>
            simp only [hdp, cond_true] at h
            split at h
            · rename_i z hz
              cases hg : (decide (0 ≤ n) && (decide (n ≤ m) && decide ((C.ti e).bytes * m ≤ 281474976710656))) with
              | false => simp only [hg, cond_false] at h
              | true =>
                simp only [hg, cond_true] at h
                simp only [Bool.and_eq_true, decide_eq_true_eq] at hg
                obtain ⟨g1, g2, g3⟩ := hg
                have hm63 : m ≤ 281474976710656 := by
                  have := Int.mul_le_mul_of_nonneg_right (show (1 : Int) ≤ (C.ti e).bytes by have := E.bpos; omega) (show 0 ≤ m by omega)
                  omega
                have hrun := run_make (P := P) w t e x _ E.under i1 i4 kl kc n m g1 g2 (by rw [i3]; exact g3) (by omega)
                have hzv : VRs g M (zeroCells (C.ti e)) (C.ti e).zero.cells.toList := VRs_ofVal1 g M _
                obtain ⟨bz, d1, _, _, d4⟩ := decOw_sound hr _ hz hzv .nil
                have hbz : bz = [] := by
                  cases bz with
                  | nil => rfl
                  | cons b r =>
                    obtain ⟨j, hj, _⟩ := d4 b (by simp)
                    cases hj
                subst hbz
                rw [List.take_of_length_le (by omega)] at d1
                have hcell : (w.alloc (.cells (madeCells (C.ti e).zero.cells (m.toNat * x.size)) e)).heap[w.heap.size]? = some (.cells (madeCells (C.ti e).zero.cells (m.toNat * x.size)) e (0, 0)) := by simp [World.alloc_eq, World.alloc, -World.alloc_eq]
                have hMn : M w.heap.size = none := by
                  cases hm : M w.heap.size with
                  | none => rfl
                  | some cs' =>
                    obtain ⟨c', T', fz', k1, k2⟩ := hr.mem _ _ hm
                    have := lt_of_cells k1
                    omega
                have hnil : (List.replicate n.toNat ([] : List Nat)).flatten = [] := flatten_nils _
                have hmk := dp_mk (g := g ++ [.dp (.slice (some ⟨w.heap.size, 0, none⟩) n.toNat m.toNat) 0 0 (C.ti t).ty.size [w.heap.size] (fun k => ((madeCells (C.ti e).zero.cells (m.toNat * x.size)).toList[k]?).getD Go.undef)]) (M := M) (ver := 0) (iv := 0) (t := (C.ti t).ty) (xs := List.replicate n.toNat z) (cap := m.toNat) (bss := List.replicate n.toNat []) hcell
                  ⟨by simp, by rw [hlist0, List.length_flatten]; simp [hzl0]; exact Nat.mul_le_mul_right _ (by omega), fun i y bi hy hbi => by
                    have hi : i < n.toNat := by have := lt_of_get hy; rwa [List.length_replicate] at this
                    rw [List.getElem?_replicate, if_pos hi] at hy hbi
                    cases hy; cases hbi
                    rw [hlist0, hpart i (by omega)]
                    exact DC_frame _ (by simp) d1⟩ (by simp; omega) (by rw [size_madeCells, i2]; exact Nat.le_refl _) (clearT_zero _ _) E.pos (by simp; omega) (by rw [hnil]; exact .nil) (by rw [hnil]; simp) hMn (by rw [hnil]; simp)
                rw [hnil, List.length_replicate] at hmk
                have hfinal := adopt_push (L := []) (w' := w.alloc (.cells (madeCells (C.ti e).zero.cells (m.toNat * x.size)) e)) hr hb (by simp) rfl rfl rfl (fun b hb' _ => by
                  show (w.heap.push _)[b]? = _
                  rw [Array.getElem?_push, if_neg (by omega)]) hmk (fun b hb' => by
                  simp only [ownB, List.mem_singleton] at hb'
                  subst hb'
                  exact .inr (Nat.le_refl _))
                refine ⟨_, _, _, _, M, _, h, hrun, ?_, hfinal.1, hfinal.2.1, hfinal.2.2⟩
                exact .dob _ 0 0 0 _ _ _ _ _ (by rw [hr.len, List.getElem?_append_right (Nat.le_refl _), Nat.sub_self]; rfl) (Nat.le_refl _) (fun _ => rfl) rfl
            · exact h.elim
          | false =>
          simp only [hdp, cond_false] at h
          split at h
          · rename_i z hz
            cases hg : (decide (0 ≤ n) && (decide (n ≤ m) && decide ((C.ti e).bytes * m ≤ 281474976710656))) with
            | false => simp only [hg, cond_false] at h
            | true =>
              simp only [hg, cond_true] at h
              simp only [Bool.and_eq_true, decide_eq_true_eq] at hg
              obtain ⟨g1, g2, g3⟩ := hg
              have hm63 : m ≤ 281474976710656 := by
                have := Int.mul_le_mul_of_nonneg_right (show (1 : Int) ≤ (C.ti e).bytes by have := E.bpos; omega) (show 0 ≤ m by omega)
                omega
              have hrun := run_make (P := P) w t e x _ E.under i1 i4 kl kc n m g1 g2 (by rw [i3]; exact g3) (by omega)
              have hzv : VRs g M (zeroCells (C.ti e)) (C.ti e).zero.cells.toList := VRs_ofVal1 g M _
              obtain ⟨d1, _⟩ := dec_sound _ hz hzv
              rw [List.take_of_length_le (by simp [E.zl])] at d1
              have hE := Ext.snoc g M (.sl (.slice (some ⟨w.heap.size, 0, none⟩) n.toNat m.toNat) 0 (C.ti t).ty.size)
              have hownb : ∀ b, ownB (.sl 0 (C.ti t).ty (List.replicate n.toNat z)) (.sl (.slice (some ⟨w.heap.size, 0, none⟩) n.toNat m.toNat) 0 (C.ti t).ty.size) b → b = w.heap.size := by
                intro b hb'; simp [ownB] at hb'; exact hb'.symm
              have hlist : (madeCells (C.ti e).zero.cells (m.toNat * x.size)).toList = (List.replicate m.toNat (C.ti e).zero.cells.toList).flatten := by
                rw [i2]
                exact zeros_list _ _ E.zl (by have := E.pos; omega) m.toNat
              refine ⟨_, _, _, g ++ [.sl (.slice (some ⟨w.heap.size, 0, none⟩) n.toNat m.toNat) 0 (C.ti t).ty.size], M, _, h, hrun, ?_, hr.push ?_ hownb, hb.push hr.len hownb, hE⟩
              · exact .obj _ 0 0 (C.ti t).ty.size (.slice (some ⟨w.heap.size, 0, none⟩) n.toNat m.toNat) _ (by rw [hr.len, List.getElem?_append_right (Nat.le_refl _)]; simp) (Nat.le_refl _) (fun _ => rfl) rfl
              · simp only [ObOk]
                refine ⟨trivial, trivial, ⟨E.pos, by simp; omega⟩, .inr ⟨w.heap.size, m.toNat, madeCells (C.ti e).zero.cells (m.toNat * x.size), e, (0, 0), by simp, by simp [World.alloc_eq, World.alloc, -World.alloc_eq], by simp; omega, by rw [size_madeCells, i2]; exact Nat.le_refl _, ?_, clearT_zero _ _, ?_⟩⟩
                · intro i y hy
                  have hi := lt_of_get hy
                  simp at hi
                  have hyz : y = z := by
                    rw [List.getElem?_eq_getElem (by simp; exact hi)] at hy
                    simp at hy
                    exact hy.symm
                  subst hyz
                  rw [hlist]
                  have hzl : (C.ti e).zero.cells.toList.length = (C.ti t).ty.size := by simp [E.zl]
                  have : (((List.replicate m.toNat (C.ti e).zero.cells.toList).flatten).drop (i * (C.ti t).ty.size)).take (C.ti t).ty.size = (C.ti e).zero.cells.toList := by
                    have hsp : m.toNat = i + (1 + (m.toNat - i - 1)) := by omega
                    rw [hsp, ← List.replicate_append_replicate, List.flatten_append]
                    have hfl : ∀ k, (List.replicate k (C.ti e).zero.cells.toList).flatten.length = k * (C.ti t).ty.size := by
                      intro k
                      rw [List.length_flatten]
                      simp [hzl]
                    rw [List.drop_left' (hfl i), ← List.replicate_append_replicate, List.flatten_append]
                    simp only [List.replicate_one, List.flatten_cons, List.flatten_nil, List.append_nil]
                    rw [List.take_left' hzl]
                  rw [this]
                  exact d1.mono hE
                · cases hm : M w.heap.size with
                  | none => rfl
                  | some cs' =>
                    obtain ⟨c', T', fz', k1, k2⟩ := hr.mem _ _ hm
                    have := lt_of_cells k1
                    omega
          · exact h.elim
        · exact h.elim
      · exact h.elim
  · exact h.elim

/-! ### growing -/
theorem set_get {α : Type} {l : List α} {i j : Nat} {x y : α} (h : (l.set i x)[j]? = some y) : (j = i ∧ y = x) ∨ (j ≠ i ∧ l[j]? = some y) := by
  by_cases e : i = j
  · subst e
    rw [List.getElem?_set] at h
    simp only [↓reduceIte] at h
    split at h
    · cases h; exact .inl ⟨rfl, rfl⟩
    · cases h
  · rw [List.getElem?_set_ne e] at h
    exact .inr ⟨fun e' => e e'.symm, h⟩

theorem ext_set {id : Nat} {x x' : G} (hx : g[id]? = some x) (hle : Gle x x') : Ext g M (g.set id x') M := by
  refine ⟨fun j y hy => ?_, fun _ _ h => h⟩
  by_cases e : id = j
  · subst e
    rw [hx] at hy; cases hy
    exact ⟨x', by rw [List.getElem?_set_self (lt_of_get hx)], hle⟩
  · exact ⟨y, by rw [List.getElem?_set_ne e]; exact hy, Gle.refl y⟩

theorem HR.update {w' : World} (hr : HR H g M w) {id : Nat} {o o' : Ob} {x x' : G} (ho : H[id]? = some o) (hx : g[id]? = some x) (hle : Gle x x')
    (hkeep : ∀ b, b < w.heap.size → ¬ ownB o x b → w'.heap[b]? = w.heap[b]?) (hob : ObOk (g.set id x') M w' o' x') (hown : ∀ b, ownB o' x' b → ownB o x b ∨ w.heap.size ≤ b) :
    HR (H.set id o') (g.set id x') M w' := by
  have E : Ext g M (g.set id x') M := ext_set hx hle
  have key : ∀ (j : Nat) (y : Ob) (z : G), (H.set id o')[j]? = some y → (g.set id x')[j]? = some z → (j = id ∧ y = o' ∧ z = x') ∨ (j ≠ id ∧ H[j]? = some y ∧ g[j]? = some z) := by
    intro j y z h1 h2
    rcases set_get h1 with ⟨e1, e2⟩ | ⟨e1, e2⟩ <;> rcases set_get h2 with ⟨e3, e4⟩ | ⟨e3, e4⟩
    · exact .inl ⟨e1, e2, e4⟩
    · exact absurd e1 e3
    · exact absurd e3 e1
    · exact .inr ⟨e1, e2, e4⟩
  refine ⟨by simp [hr.len], ?_, ?_, ?_⟩
  · intro j y z h1 h2
    rcases key j y z h1 h2 with ⟨rfl, rfl, rfl⟩ | ⟨hne, h1, h2⟩
    · exact hob
    · refine (hr.ob j y z h1 h2).mono E fun b hb => hkeep b (Ev.own_lt (hr.ob j y z h1 h2) hb).1 fun e => ?_
      exact hne (hr.apart j id y o z x b h1 h2 ho hx hb e)
  · intro j j' y y' z z' b a1 a2 b1 b2 c1 c2
    rcases key j y z a1 a2 with ⟨d1, d2, d3⟩ | ⟨hne, p1, p2⟩ <;> rcases key j' y' z' b1 b2 with ⟨f1, f2, f3⟩ | ⟨hne', q1, q2⟩
    · rw [d1, f1]
    · subst d2; subst d3
      have := (Ev.own_lt (hr.ob _ _ _ q1 q2) c2).1
      rcases hown b c1 with k | k
      · rw [d1]; exact hr.apart _ _ _ _ _ _ b ho hx q1 q2 k c2
      · omega
    · subst f2; subst f3
      have := (Ev.own_lt (hr.ob _ _ _ p1 p2) c1).1
      rcases hown b c2 with k | k
      · rw [f1]; exact hr.apart _ _ _ _ _ _ b p1 p2 ho hx c1 k
      · omega
    · exact hr.apart _ _ _ _ _ _ b p1 p2 q1 q2 c1 c2
  · intro b cs hm
    obtain ⟨c', T', fz', h1, h2⟩ := hr.mem b cs hm
    refine ⟨c', T', fz', (hkeep b (lt_of_cells h1) fun e => ?_).trans h1, h2⟩
    rw [(Ev.own_lt (hr.ob id o x ho hx) e).2] at hm
    cases hm

theorem Base.update {w0 w' : World} {M0 : Mem} {own0 : Z} (hb : Base w0 M0 own0 H g M w) {id : Nat} {o o' : Ob} {x x' : G} (ho : H[id]? = some o) (hx : g[id]? = some x) (hfx : x.fixed = true → own0.n ≤ id ∨ x' = x)
    (hs : w.heap.size ≤ w'.heap.size) (hos : w'.os = w.os) (htp : w'.tape = w.tape) (hout : w'.output = w.output)
    (hkeep : ∀ b, b < w.heap.size → ¬ ownB o x b → w'.heap[b]? = w.heap[b]?) (hown : ∀ b, ownB o' x' b → ownB o x b ∨ w.heap.size ≤ b) :
    Base w0 M0 own0 (H.set id o') (g.set id x') M w' := by
  have hsz := hb.size
  refine ⟨by omega, ?_, ?_, hb.mle, hb.mnew, hos.trans hb.os, htp.trans hb.tape, hout.trans hb.output, ?_⟩
  · intro b h1 h2
    refine (hkeep b (by omega) fun e => ?_).trans (hb.keep b h1 h2)
    rcases hb.own b ⟨id, o, x, ho, hx, e⟩ with k | k
    · exact h2 k
    · omega
  · rintro b ⟨j, y, z, h1, h2, h3⟩
    rcases set_get h1 with ⟨rfl, rfl⟩ | ⟨hne, h1⟩ <;> rcases set_get h2 with ⟨e, rfl⟩ | ⟨hne', h2⟩
    · rcases hown b h3 with k | k
      · exact hb.own b ⟨_, _, _, ho, hx, k⟩
      · exact .inr (by omega)
    · exact absurd rfl hne'
    · exact absurd e hne
    · exact hb.own b ⟨j, y, z, h1, h2, h3⟩
  · intro j b hj
    have := hb.gbox j b hj
    by_cases e : id = j
    · subst e
      rw [hx] at this; cases this
      rw [List.getElem?_set_self (lt_of_get hx)]
      rcases hfx (own0.fx _ _ hj) with k | k
      · have := own0.lt _ _ hj; omega
      · rw [k]
    · rw [List.getElem?_set_ne e]; exact this

theorem run_append_none {t ty e : TypeId} (ht : P.underlying t = some (.slice e)) {x : TypeInfo} (hi : P.info? e = some x) (base ad : Option Addr) (n cap c : Nat) (hn : n ≤ cap) :
    (Builtin.append_ #[t, t] ty #[.slice base n cap, .slice ad 0 c]).run P w = .ok (.slice base n cap) w := by
  cases base <;> cases ad <;> simp [Builtin.append_, run_underlying ht, sizeOf, typeInfo, hi, Builtin.lenOf, Builtin.firstCells, loadCells, loadCellsFrom, storeCells, hn]

theorem run_append_in {t ty e : TypeId} (ht : P.underlying t = some (.slice e)) {i : TypeInfo} (hi : P.info? e = some i)
    {b sLen sCap : Nat} {cur : Array Value} {T : TypeId} {fz : Nat × Nat} (hg : w.heap[b]? = some (.cells cur T fz)) (hz : Clear cur.size fz)
    {a : Addr} {m c : Nat} {news : List Value} (hl : news.length = m * i.size) (hnews : ∀ j u, news[j]? = some u → w.cell? (a.add j) = some u) (h1 : ∀ u ∈ news, u.oneCell' = true)
    (hroom : sLen + m ≤ sCap) (hfit : sLen * i.size + news.length ≤ cur.size) :
    (Builtin.append_ #[t, t] ty #[.slice (some ⟨b, 0, none⟩) sLen sCap, .slice (some a) m c]).run P w =
      .ok (.slice (some ⟨b, 0, none⟩) (sLen + m) sCap) (putRow w b (setAtC cur.toList (sLen * i.size) news).toArray T fz) := by
  have hf := run_firstCells_some (P := P) w i.size m a m c news hl hnews
  have hst := run_storeCells_clear P b (sLen * i.size) T fz news 0 cur w hg (by simpa using hfit) hz h1
  simp only [Nat.add_zero] at hst
  simp [Builtin.append_, run_underlying ht, sizeOf, typeInfo, hi, Builtin.lenOf, hroom, hf, Addr.add_lit, hst]

theorem setAtC_split : ∀ (ds cs : List Value) (i : Nat), i + ds.length ≤ cs.length → setAtC cs i ds = cs.take i ++ ds ++ cs.drop (i + ds.length)
  | [], cs, i, h => by simp [setAtC]
  | d :: ds, cs, i, h => by
    simp only [List.length_cons] at h
    rw [setAtC, setAtC_split ds _ _ (by simp; omega)]
    have e : (cs.set i d).take (i + 1) = cs.take i ++ [d] := by
      apply List.ext_getElem?
      intro j
      rw [List.getElem?_take]
      by_cases hj : j < i
      · rw [if_pos (by omega), List.getElem?_set_ne (by omega), List.getElem?_append_left (by rw [List.length_take]; omega), List.getElem?_take, if_pos hj]
      · by_cases hj2 : j = i
        · subst hj2
          rw [if_pos (by omega), List.getElem?_set_self (by omega), List.getElem?_append_right (by rw [List.length_take]; omega), List.length_take, Nat.min_eq_left (by omega), Nat.sub_self]
          rfl
        · rw [if_neg (by omega), List.getElem?_eq_none (by simp; omega)]
    rw [e, List.drop_set_of_lt (by omega)]
    simp only [List.append_assoc, List.length_cons, List.cons_append, List.nil_append]
    rw [show i + 1 + ds.length = i + (ds.length + 1) by omega]

theorem appendDV_sound {own0 : Z} (L : LOk P C) (hz : own0.n ≤ C.base) (hr : HR H g M w) {w0 : World} {M0 : Mem} (hb : Base w0 M0 own0 H g M w) {t e : TypeId} (E : ElemFacts P C t e) {x : V} {j ver2 : Nat} {vx vy : Value} {ty : TypeId} (hx : VR g M x vx) (hy : VR g M (.dob j ver2) vy)
    {K : V → Heap → Prop} (h : appendDV C t e x j ver2 H K) : Made P w0 M0 own0 H g M w (Builtin.append_ #[t, t] ty #[vx, vy]) K := by
  obtain ⟨i, i1, i2, i3, i4⟩ := E.info
  unfold appendDV at h
  split at h
  · rename_i ver2' ivj t2 y0 r hj
    cases hb2 : Nat.beq ver2 ver2' with
    | false => simp only [hb2, cond_false] at h
    | true =>
    simp only [hb2, cond_true] at h
    split at h
    · rename_i et
      subst et
      generalize hys : y0 :: r = ys at *
      have hyl : r.length + 1 = ys.length := by rw [← hys]; rfl
      rw [hyl] at h
      cases hy with
      | dob _ _ verj ivj' szj bsj ihj hhj _ gj gj2 gj3 gj4 =>
      have hoj := hr.ob j _ _ hj gj
      have hoj' := hoj
      simp only [ObOk] at hoj
      obtain ⟨⟨rfl, rfl, rfl⟩, hdcj, hndj, hmj, _⟩ := hoj
      have evy := gj3 (beq_true hb2)
      subst evy
      obtain ⟨v0, hv0, hlenj, hszj, ⟨_, e0, _⟩ | ⟨bj, capj, cj, Tj, fzj, bssj, evy, kj1, kj2, kj3, kj4, kj5, kj6, kj7⟩⟩ := hdcj
      · rw [e0] at hyl; simp at hyl
      · cases hv0
        subst evy
        have hDj : DCs w (C.ti t).ty ys cj.toList bssj := ⟨kj6, by simp; exact Nat.le_trans (Nat.mul_le_mul_right _ kj2) kj3, kj7⟩
        have hpos : 0 < ys.length := by omega
        obtain ⟨news, hnews⟩ : ∃ news, news = cj.toList.take (ys.length * (C.ti t).ty.size) := ⟨_, rfl⟩
        have hDn : DCs w (C.ti t).ty ys news bssj := by rw [hnews]; exact hDj.take
        have hlen : news.length = ys.length * (C.ti t).ty.size := by rw [hnews, List.length_take]; have := hDj.2.1; omega
        have hlen' : news.length = ys.length * i.size := by rw [hlen, i2]
        have hone := hDn.one E.pos hlen
        have hcells : ∀ k u, news[k]? = some u → w.cell? ((⟨bj, 0, none⟩ : Addr).add k) = some u := by
          intro k u hu
          rw [Addr.add_lit, cell?_row kj1]
          rw [hnews, List.getElem?_take] at hu
          split at hu
          · simpa using hu
          · cases hu
        have hjm : ∀ b ∈ bssj.flatten, OwnIn H g [j] b := fun b hm => ⟨j, by simp, _, _, hj, gj, by show b ∈ bsj; rw [kj5]; exact List.mem_cons_of_mem _ hm⟩
        have hjn : bssj.flatten.Nodup := by rw [kj5] at hndj; exact (List.nodup_cons.1 hndj).2
        have hjlt : ∀ b ∈ bssj.flatten, b < w.heap.size ∧ M b = none := fun b hm => dp_lt hoj' (by rw [kj5]; exact List.mem_cons_of_mem _ hm)
        have hMn : M w.heap.size = none := by
          cases hm : M w.heap.size with
          | none => rfl
          | some cs' =>
            obtain ⟨c', T', fz', k1, k2⟩ := hr.mem _ _ hm
            have := lt_of_cells k1
            omega
        have hkeepF : ∀ (c : Array Value) (b : Nat), b < w.heap.size → (w.drew.alloc (.cells c e)).heap[b]? = w.heap[b]? := fun c b hbl => by show (w.heap.push _)[b]? = _; rw [Array.getElem?_push_lt hbl, Array.getElem?_eq_getElem hbl]
        have fresh : ∀ (old : Nat) (xs : List (C.ti t).ty.den) (olds : List Value) (bss : List (List Nat)), DCs w (C.ti t).ty xs olds bss → olds.length = xs.length * (C.ti t).ty.size → xs.length + ys.length ≤ 9223372036854775807 → (bss ++ bssj).flatten.Nodup → (∀ b ∈ bss.flatten, b < w.heap.size ∧ M b = none) →
            ∀ (ver iv : Nat) (g' : List G), ObOk g' M (w.drew.alloc (.cells (olds.toArray ++ news.toArray ++ Builtin.zeroCells (C.ti e).zero.cells (grownCap w (xs.length + ys.length) old e - (xs.length + ys.length))) e))
              (.dp ver iv (C.ti t).ty (xs ++ ys)) (.dp (.slice (some ⟨w.heap.size, 0, none⟩) (xs.length + ys.length) (grownCap w (xs.length + ys.length) old e)) ver iv (C.ti t).ty.size (w.heap.size :: (bss ++ bssj).flatten)
                (fun k => ((olds.toArray ++ news.toArray ++ Builtin.zeroCells (C.ti e).zero.cells (grownCap w (xs.length + ys.length) old e - (xs.length + ys.length))).toList[k]?).getD Go.undef)) := by
          intro old xs olds bss hD hol hsm hnd hbl ver iv g'
          have hge := grownCap_ge w (xs.length + ys.length) old e
          have hall : ∀ b ∈ (bss ++ bssj).flatten, b < w.heap.size ∧ M b = none := by
            intro b hm
            rw [List.flatten_append] at hm
            rcases List.mem_append.1 hm with k | k
            · exact hbl b k
            · exact hjlt b k
          have := dp_mk (g := g') (M := M) (ver := ver) (iv := iv) (t := (C.ti t).ty) (xs := xs ++ ys) (cap := grownCap w (xs.length + ys.length) old e) (bss := bss ++ bssj) (fz := (0, 0)) (heap_alloc_new w.drew (.cells (olds.toArray ++ news.toArray ++ Builtin.zeroCells (C.ti e).zero.cells (grownCap w (xs.length + ys.length) old e - (xs.length + ys.length))) e))
            (by
              have h1 := ((hD.append hol hDn).more (ds := (Builtin.zeroCells (C.ti e).zero.cells (grownCap w (xs.length + ys.length) old e - (xs.length + ys.length))).toList)).frame (w' := w.drew.alloc (.cells (olds.toArray ++ news.toArray ++ Builtin.zeroCells (C.ti e).zero.cells (grownCap w (xs.length + ys.length) old e - (xs.length + ys.length))) e)) (fun b hm => hkeepF _ b (hall b hm).1)
              simp only [Array.toList_append]
              exact h1) (by rw [List.length_append]; exact hge) (by
              simp only [Array.size_append, List.size_toArray, size_zeroCells, E.zl, hol, hlen, ← Nat.add_mul]
              refine Nat.mul_le_mul_right _ ?_
              omega) (clearT_zero _ _) E.pos (by rw [List.length_append]; exact hsm) hnd (fun hm => by have := (hall _ hm).1; have hd : w.drew.heap.size = w.heap.size := rfl; omega) hMn (fun b hm => (hall b hm).2)
          rw [List.length_append] at this
          exact this
        split at h
        · -- append to nil
          cases hx
          cases hg : decide ((0 + ys.length) * (C.ti e).bytes ≤ 140737488355328) with
          | false => simp only [hg, cond_false] at h
          | true =>
            simp only [hg, cond_true] at h
            rw [decide_eq_true_eq, Nat.zero_add] at hg
            have h47 : ys.length ≤ 140737488355328 := Nat.le_trans (Nat.le_mul_of_pos_right _ E.bpos) hg
            have hrun := run_append_nil (P := P) w t ty e i _ E.under i1 i4 ⟨bj, 0, none⟩ ys.length capj news hlen' hcells hpos (by omega) (by rw [i3]; omega)
            have hob := fresh 0 [] [] [] ⟨rfl, by simp, by intro k z bi hk; simp at hk⟩ (by simp) (by simp; omega) (by simpa using hjn) (by simp) 0 0
            simp only [List.length_nil, Nat.zero_add, List.nil_append, Array.empty_append] at hob
            have hfinal := adopt_push (L := [j]) (w' := w.drew.alloc (.cells (news.toArray ++ Builtin.zeroCells (C.ti e).zero.cells (grownCap w ys.length 0 e - ys.length)) e)) hr hb (by simp) rfl rfl rfl (fun b hb' _ => hkeepF _ b hb') (hob _) (fun b hb' => by
              rcases List.mem_cons.1 hb' with rfl | hb'
              · exact .inr (Nat.le_refl _)
              · exact .inl (hjm b hb'))
            refine ⟨_, _, _, _, M, _, h, hrun, ?_, hfinal.1, hfinal.2.1, hfinal.2.2⟩
            exact .dob _ 0 0 0 _ _ _ _ _ (by rw [hr.len, List.getElem?_append_right (Nat.le_refl _), Nat.sub_self]; rfl) (Nat.le_refl _) (fun _ => rfl) rfl
        · rename_i id ver
          cases hx with
          | dob _ _ ver' iv sz bs ih hh _ h1 h2 h3 h4 =>
          split at h
          · rename_i ver3 iv3 t' xs hid
            have ho := hr.ob id _ _ hid h1
            cases hbq : (Nat.beq ver ver3 && (!Nat.beq id j && Nat.ble C.base id)) with
            | false => simp [hbq] at h
            | true =>
            simp only [hbq, cond_true] at h
            simp only [Bool.and_eq_true, Bool.not_eq_true'] at hbq
            obtain ⟨q1, q2, q3⟩ := hbq
            have hne : id ≠ j := fun e => by rw [e, Nat.beq_refl] at q2; cases q2
            split at h
            · rename_i et
              subst et
              simp only at h
              cases hg : decide ((xs.length + ys.length) * (C.ti e).bytes ≤ 140737488355328) with
              | false => simp only [hg, cond_false] at h
              | true =>
              simp only [hg, cond_true] at h
              rw [decide_eq_true_eq] at hg
              have h47 : xs.length + ys.length ≤ 140737488355328 := Nat.le_trans (Nat.le_mul_of_pos_right _ E.bpos) hg
              have ho' := ho
              simp only [ObOk] at ho
              obtain ⟨⟨rfl, rfl, rfl⟩, hdc, hnd, hmn, _⟩ := ho
              have e3 := h3 (beq_true q1)
              subst e3
              have hapart : ∀ b, b ∈ bs → b ∉ bssj.flatten := by
                intro b hm1 hm2
                have := hr.apart id j _ _ _ _ b hid h1 hj gj (show b ∈ bs from hm1) (show b ∈ bsj by rw [kj5]; exact List.mem_cons_of_mem _ hm2)
                exact hne this
              have fin : ∀ (val : Value) (w' : World) (bs' : List Nat) (ih' : Nat → Value), val.oneCell' = true → (Builtin.append_ #[t, t] ty #[vx, .slice (some ⟨bj, 0, none⟩) ys.length capj]).run P w = .ok val w' → w.heap.size ≤ w'.heap.size → w'.os = w.os → w'.tape = w.tape → w'.output = w.output →
                  (∀ b, b < w.heap.size → b ∉ bs → w'.heap[b]? = w.heap[b]?) →
                  ObOk (g.set id (.dp val (ver' + 1) (iv + 1) (C.ti t).ty.size bs' ih')) M w' (.dp (ver' + 1) (iv + 1) (C.ti t).ty (xs ++ ys)) (.dp val (ver' + 1) (iv + 1) (C.ti t).ty.size bs' ih') →
                  (∀ b ∈ bs', b ∈ bs ∨ b ∈ bssj.flatten ∨ w.heap.size ≤ b) →
                  Made P w0 M0 own0 H g M w (Builtin.append_ #[t, t] ty #[vx, .slice (some ⟨bj, 0, none⟩) ys.length capj]) K := by
                intro val w' bs' ih' ho1 hrun hs hos htp hout hkeep hob hown
                have hfinal := adopt_set (L := [j]) (w' := w') (o' := .dp (ver' + 1) (iv + 1) (C.ti t).ty (xs ++ ys)) hr hb hid h1 (x' := .dp val (ver' + 1) (iv + 1) (C.ti t).ty.size bs' ih') ⟨rfl, by omega, fun e => by omega, by omega, fun e => by omega⟩
                  (fun _ => .inl (Nat.le_trans hz (Nat.le_of_ble_eq_true q3))) hs hos htp hout (fun b hbl hno _ => hkeep b hbl hno) hob (fun b hm => by
                    rcases hown b hm with k | k | k
                    · exact .inl k
                    · exact .inr (.inl (hjm b k))
                    · exact .inr (.inr k))
                refine ⟨_, _, val, _, M, w', h, hrun, ?_, hfinal.1, hfinal.2.1, hfinal.2.2⟩
                exact .dob id (ver' + 1) (ver' + 1) (iv + 1) _ _ _ val val (by rw [List.getElem?_set_self (lt_of_get h1)]) (Nat.le_refl _) (fun _ => rfl) ho1
              obtain ⟨v0, hv0, hlenx, hszx, ⟨e0, e1, e2⟩ | ⟨b, scap, c, T, fz, bss, evx, k1, k2, k3, k4, k5, k6, k7⟩⟩ := hdc
              · cases hv0
                subst e0; subst e1; subst e2
                have hrun := run_append_nil (P := P) w t ty e i _ E.under i1 i4 ⟨bj, 0, none⟩ ys.length capj news hlen' hcells hpos (by simp at h47; omega) (by rw [i3]; simp at hg; omega)
                have hob := fresh 0 [] [] [] ⟨rfl, by simp, by intro k z bi hk; simp at hk⟩ (by simp) (by simp at h47 ⊢; omega) (by simpa using hjn) (by simp) (ver' + 1) (iv + 1)
                simp only [List.length_nil, Nat.zero_add, List.nil_append, Array.empty_append] at hob
                refine fin _ _ _ _ rfl hrun (by simp) rfl rfl rfl (fun b hbl _ => hkeepF _ b hbl) (hob _) (fun b hm => ?_)
                rcases List.mem_cons.1 hm with rfl | hm
                · exact .inr (.inr (Nat.le_refl _))
                · exact .inr (.inl hm)
              · cases hv0
                subst evx
                have hDx : DCs w (C.ti t).ty xs c.toList bss := ⟨k6, by simp; exact Nat.le_trans (Nat.mul_le_mul_right _ k2) k3, k7⟩
                have hbss : ∀ b' ∈ bss.flatten, b' ∈ bs := fun b' hm => by rw [k5]; exact List.mem_cons_of_mem _ hm
                have hnd2 := hnd
                rw [k5, List.nodup_cons] at hnd2
                have hndall : (bss ++ bssj).flatten.Nodup := by
                  rw [List.flatten_append, List.nodup_append]
                  refine ⟨hnd2.2, hjn, ?_⟩
                  rintro a ha _ hb' rfl
                  exact hapart a (hbss a ha) hb'
                have hbm : b ∈ bs := by rw [k5]; simp
                by_cases hroom : xs.length + ys.length ≤ scap
                · have hm := Nat.mul_le_mul_right (C.ti t).ty.size hroom
                  rw [Nat.add_mul] at hm
                  have hfit : xs.length * i.size + news.length ≤ c.size := by rw [i2, hlen]; omega
                  have hrun := run_append_in (P := P) (ty := ty) (c := capj) E.under i1 k1 k4.1 hlen' hcells hone hroom hfit
                  have hD2 : DCs (putRow w b (setAtC c.toList (xs.length * i.size) news).toArray T fz) (C.ti t).ty (xs ++ ys) (setAtC c.toList (xs.length * i.size) news) (bss ++ bssj) := by
                    rw [setAtC_split _ _ _ (by simpa using hfit), i2]
                    refine (((hDx.take).append (by rw [List.length_take]; have := hDx.2.1; omega) hDn).more).frame fun b' hm => putRow_other fun e => ?_
                    rw [List.flatten_append] at hm
                    rcases List.mem_append.1 hm with k | k
                    · exact hnd2.1 (e ▸ k)
                    · exact hapart b hbm (e ▸ k)
                  have hmk := dp_mk (g := g.set id (.dp (.slice (some ⟨b, 0, none⟩) (xs.length + ys.length) scap) (ver' + 1) (iv + 1) (C.ti t).ty.size (b :: (bss ++ bssj).flatten) (fun k => ((setAtC c.toList (xs.length * i.size) news).toArray.toList[k]?).getD Go.undef))) (M := M) (ver := ver' + 1) (iv := iv + 1) (cap := scap) (putRow_get (lt_of_cells k1)) (show DCs _ (C.ti t).ty (xs ++ ys) (setAtC c.toList (xs.length * i.size) news).toArray.toList (bss ++ bssj) from hD2)
                    (by rw [List.length_append]; exact hroom) (by rw [toArray_size, setAtC_length]; simpa using k3) (by rw [toArray_size, setAtC_length]; simpa using k4) E.pos (by rw [List.length_append]; omega) hndall (fun hm => by
                      rw [List.flatten_append] at hm
                      rcases List.mem_append.1 hm with k | k
                      · exact hnd2.1 k
                      · exact hapart b hbm k) (hmn b hbm) (fun b' hm => by
                      rw [List.flatten_append] at hm
                      rcases List.mem_append.1 hm with k | k
                      · exact hmn b' (hbss b' k)
                      · exact (hjlt b' k).2)
                  rw [List.length_append] at hmk
                  refine fin _ _ _ _ rfl hrun (by rw [putRow_size]; exact Nat.le_refl _) rfl rfl rfl (fun b' hbl hno => putRow_other fun e => hno (e ▸ hbm)) hmk (fun b' hm => ?_)
                  rcases List.mem_cons.1 hm with rfl | hm
                  · exact .inl hbm
                  · rw [List.flatten_append] at hm
                    rcases List.mem_append.1 hm with k | k
                    · exact .inl (hbss b' k)
                    · exact .inr (.inl k)
                · have holds : ∀ k u, (c.toList.take (xs.length * i.size))[k]? = some u → w.cell? ((⟨b, 0, none⟩ : Addr).add k) = some u := by
                    intro k u hu
                    rw [Addr.add_lit, cell?_row k1]
                    rw [List.getElem?_take] at hu
                    split at hu
                    · simpa using hu
                    · cases hu
                  have hol : (c.toList.take (xs.length * i.size)).length = xs.length * i.size := by rw [List.length_take, i2]; have := hDx.2.1; omega
                  have hrun := run_append_grow (P := P) w t ty e i _ E.under i1 i4 ⟨b, 0, none⟩ xs.length scap _ hol holds ⟨bj, 0, none⟩ ys.length capj news hlen' hcells (by omega) (by omega) (growslice_fits (by omega) (by rw [i3]; exact hg))
                  have hob := fresh scap xs (c.toList.take (xs.length * i.size)) bss (by rw [i2]; exact hDx.take) (by rw [hol, i2]) (by omega) hndall (fun b' hm => dp_lt ho' (hbss b' hm)) (ver' + 1) (iv + 1)
                  refine fin _ _ _ _ rfl hrun (by simp) rfl rfl rfl (fun b' hbl _ => hkeepF _ b' hbl) (hob _) (fun b' hm => ?_)
                  rcases List.mem_cons.1 hm with rfl | hm
                  · exact .inr (.inr (Nat.le_refl _))
                  · rw [List.flatten_append] at hm
                    rcases List.mem_append.1 hm with k | k
                    · exact .inl (hbss b' k)
                    · exact .inr (.inl k)
            · exact h.elim
          · exact h.elim
        · exact h.elim
    · exact h.elim
  · exact h.elim

theorem appendV_sound {own0 : Z} (L : LOk P C) (hz : own0.n ≤ C.base) (hr : HR H g M w) {w0 : World} {M0 : Mem} (hb : Base w0 M0 own0 H g M w) {t : TypeId} {x y : V} {vx vy : Value} {ty : TypeId} (hx : VR g M x vx) (hy : VR g M y vy)
    {K : V → Heap → Prop} (h : appendV C t x y H K) : Made P w0 M0 own0 H g M w (Builtin.append_ #[t, t] ty #[vx, vy]) K := by
  unfold appendV at h
  split at h
  · rename_i e hd
    cases hq : elemOk C t e with
    | false => simp only [hq, cond_false] at h
    | true =>
      simp only [hq, cond_true] at h
      have E := elemOk_sound L hd hq
      obtain ⟨i, i1, i2, i3, i4⟩ := E.info
      split at h
      · exact appendDV_sound L hz hr hb E hx hy h
      split at h
      · exact h.elim
      · rename_i ys hys
        obtain ⟨ad, cap, news, hL⟩ := listOf_sound hr hy hys
        have hvy := hL.val
        subst hvy
        have hone := hL.chunks.one E.pos hL.len
        have hlen : news.length = ys.length * i.size := by rw [hL.len, i2]
        -- a new block
        have fresh : ∀ (old : Nat) (xs : List (C.ti t).ty.den) (olds : List Value), olds.length = xs.length * i.size → Chunks g M (C.ti t).ty xs olds → xs.length + ys.length ≤ 9223372036854775807 →
            ∀ (ver : Nat) (g' : List G), Ext g M g' M → ObOk g' M (w.drew.alloc (.cells (olds.toArray ++ news.toArray ++ Builtin.zeroCells (C.ti e).zero.cells (grownCap w (xs.length + ys.length) old e - (xs.length + ys.length))) e))
              (.sl ver (C.ti t).ty (xs ++ ys)) (.sl (.slice (some ⟨w.heap.size, 0, none⟩) (xs.length + ys.length) (grownCap w (xs.length + ys.length) old e)) ver (C.ti t).ty.size) := by
          intro old xs olds ho hch hsm ver g' hE
          have hge := grownCap_ge w (xs.length + ys.length) old e
          simp only [ObOk]
          refine ⟨trivial, trivial, ⟨E.pos, by rw [List.length_append]; exact hsm⟩, .inr ⟨w.heap.size, _, _, e, (0, 0), by rw [List.length_append], heap_alloc_new w.drew _, by rw [List.length_append]; exact hge, ?_, ?_, clearT_zero _ _, ?_⟩⟩
          · simp only [Array.size_append, List.size_toArray, size_zeroCells, E.zl, ho, hlen, i2, ← Nat.add_mul]
            refine Nat.mul_le_mul_right _ ?_
            omega
          · intro j z hz
            have h1 := (hch.append (by rw [ho, i2]) hL.chunks).more (ds := (Builtin.zeroCells (C.ti e).zero.cells (grownCap w (xs.length + ys.length) old e - (xs.length + ys.length))).toList) (by
              simp only [List.length_append, ho, hlen, i2, ← Nat.add_mul]; exact Nat.le_refl _)
            have := h1 j z hz
            simp only [Array.toList_append]
            exact this.mono hE
          · cases hm : M w.heap.size with
            | none => rfl
            | some cs' =>
              obtain ⟨c', T', fz', k1, k2⟩ := hr.mem _ _ hm
              have := lt_of_cells k1
              omega
        have hkeepF : ∀ (c : Array Value) (b : Nat), b < w.heap.size → (w.drew.alloc (.cells c e)).heap[b]? = w.heap[b]? := fun c b hbl => by show (w.heap.push _)[b]? = _; rw [Array.getElem?_push_lt hbl, Array.getElem?_eq_getElem hbl]
        split at h
        · -- append to nil
          cases hx
          cases hg : decide ((0 + ys.length) * (C.ti e).bytes ≤ 140737488355328) with
          | false => simp only [hg, cond_false] at h
          | true =>
            simp only [hg, cond_true] at h
            rw [decide_eq_true_eq, Nat.zero_add] at hg
            have h47 : ys.length ≤ 140737488355328 := Nat.le_trans (Nat.le_mul_of_pos_right _ E.bpos) hg
            rcases hL.cells with ⟨rfl, rfl⟩ | ⟨a, rfl, hcells⟩
            · have hE := Ext.snoc g M (.sl (.slice none 0 0) 0 (C.ti t).ty.size)
              refine ⟨_, _, .slice none 0 0, g ++ [.sl (.slice none 0 0) 0 (C.ti t).ty.size], M, w, h, run_append_none E.under i1 none ad 0 0 cap (Nat.le_refl _), ?_, ?_, ?_, hE⟩
              · exact .obj _ 0 0 (C.ti t).ty.size (.slice none 0 0) _ (by rw [hr.len, List.getElem?_append_right (Nat.le_refl _)]; simp) (Nat.le_refl _) (fun _ => rfl) rfl
              · refine ⟨by simp [hr.len], ?_, ?_, hr.mem⟩
                · intro j o z p1 p2
                  rw [getElem?_snoc] at p1 p2
                  rw [← hr.len] at p2
                  split at p1
                  · rename_i hl; rw [if_pos hl] at p2; exact (hr.ob j o z p1 p2).mono hE fun _ _ => rfl
                  · rename_i hl
                    rw [if_neg hl] at p2
                    split at p1
                    · rename_i he
                      rw [if_pos he] at p2; cases p1; cases p2
                      simp only [ObOk]
                      exact ⟨trivial, trivial, ⟨E.pos, by simp⟩, .inl ⟨trivial, trivial⟩⟩
                    · cases p1
                · intro j j' o o' z z' b p1 p2 p3 p4 p5 p6
                  rw [getElem?_snoc] at p1 p2 p3 p4
                  rw [← hr.len] at p2 p4
                  have key : ∀ {j : Nat} {o : Ob} {z : G}, (if j < H.length then H[j]? else if j = H.length then some (.sl 0 (C.ti t).ty []) else none) = some o → (if j < H.length then g[j]? else if j = H.length then some (.sl (.slice none 0 0) 0 (C.ti t).ty.size) else none) = some z → ownB o z b → H[j]? = some o ∧ g[j]? = some z := by
                    intro j o z p1 p2 p5
                    split at p1
                    · rename_i hl; rw [if_pos hl] at p2; exact ⟨p1, p2⟩
                    · rename_i hl
                      rw [if_neg hl] at p2
                      split at p1
                      · rename_i he; rw [if_pos he] at p2; cases p1; cases p2; simp [ownB] at p5
                      · cases p1
                  obtain ⟨q1, q2⟩ := key p1 p2 p5
                  obtain ⟨q3, q4⟩ := key p3 p4 p6
                  exact hr.apart j j' o o' z z' b q1 q2 q3 q4 p5 p6
              · refine ⟨hb.size, hb.keep, ?_, hb.mle, hb.mnew, hb.os, hb.tape, hb.output, fun j b hj => ?_⟩
                · rintro b ⟨j, o, z, p1, p2, p3⟩
                  rw [getElem?_snoc] at p1 p2
                  rw [← hr.len] at p2
                  split at p1
                  · rename_i hl; rw [if_pos hl] at p2; exact hb.own b ⟨j, o, z, p1, p2, p3⟩
                  · rename_i hl
                    rw [if_neg hl] at p2
                    split at p1
                    · rename_i he; rw [if_pos he] at p2; cases p1; cases p2; simp [ownB] at p3
                    · cases p1
                · have := hb.gbox j b hj
                  rw [List.getElem?_append_left (lt_of_get this)]; exact this
            · by_cases hy0 : ys = []
              · -- no element, but an address
                subst hy0
                have hn : news = [] := List.eq_nil_of_length_eq_zero (by simpa using hlen)
                have hE := Ext.snoc g M (.sl (.slice none 0 0) 0 (C.ti t).ty.size)
                refine ⟨_, _, .slice none 0 0, g ++ [.sl (.slice none 0 0) 0 (C.ti t).ty.size], M, w, h, run_append_none E.under i1 none (some a) 0 0 cap (Nat.le_refl _), ?_, ?_, ?_, hE⟩
                · exact .obj _ 0 0 (C.ti t).ty.size (.slice none 0 0) _ (by rw [hr.len, List.getElem?_append_right (Nat.le_refl _)]; simp) (Nat.le_refl _) (fun _ => rfl) rfl
                · refine ⟨by simp [hr.len], ?_, ?_, hr.mem⟩
                  · intro j o z p1 p2
                    rw [getElem?_snoc] at p1 p2
                    rw [← hr.len] at p2
                    split at p1
                    · rename_i hl; rw [if_pos hl] at p2; exact (hr.ob j o z p1 p2).mono hE fun _ _ => rfl
                    · rename_i hl
                      rw [if_neg hl] at p2
                      split at p1
                      · rename_i he
                        rw [if_pos he] at p2; cases p1; cases p2
                        simp only [ObOk]
                        exact ⟨trivial, trivial, ⟨E.pos, by simp⟩, .inl ⟨trivial, trivial⟩⟩
                      · cases p1
                  · intro j j' o o' z z' b p1 p2 p3 p4 p5 p6
                    rw [getElem?_snoc] at p1 p2 p3 p4
                    rw [← hr.len] at p2 p4
                    have key : ∀ {j : Nat} {o : Ob} {z : G}, (if j < H.length then H[j]? else if j = H.length then some (.sl 0 (C.ti t).ty []) else none) = some o → (if j < H.length then g[j]? else if j = H.length then some (.sl (.slice none 0 0) 0 (C.ti t).ty.size) else none) = some z → ownB o z b → H[j]? = some o ∧ g[j]? = some z := by
                      intro j o z p1 p2 p5
                      split at p1
                      · rename_i hl; rw [if_pos hl] at p2; exact ⟨p1, p2⟩
                      · rename_i hl
                        rw [if_neg hl] at p2
                        split at p1
                        · rename_i he; rw [if_pos he] at p2; cases p1; cases p2; simp [ownB] at p5
                        · cases p1
                    obtain ⟨q1, q2⟩ := key p1 p2 p5
                    obtain ⟨q3, q4⟩ := key p3 p4 p6
                    exact hr.apart j j' o o' z z' b q1 q2 q3 q4 p5 p6
                · refine ⟨hb.size, hb.keep, ?_, hb.mle, hb.mnew, hb.os, hb.tape, hb.output, fun j b hj => ?_⟩
                  · rintro b ⟨j, o, z, p1, p2, p3⟩
                    rw [getElem?_snoc] at p1 p2
                    rw [← hr.len] at p2
                    split at p1
                    · rename_i hl; rw [if_pos hl] at p2; exact hb.own b ⟨j, o, z, p1, p2, p3⟩
                    · rename_i hl
                      rw [if_neg hl] at p2
                      split at p1
                      · rename_i he; rw [if_pos he] at p2; cases p1; cases p2; simp [ownB] at p3
                      · cases p1
                  · have := hb.gbox j b hj
                    rw [List.getElem?_append_left (lt_of_get this)]; exact this
              · have hpos : 0 < ys.length := List.length_pos_iff.2 hy0
                have hrun := run_append_nil (P := P) w t ty e i _ E.under i1 i4 a ys.length cap news hlen hcells hpos (by omega) (by rw [i3]; omega)
                have hobn := fresh 0 [] [] (by simp) (by intro j z hz; simp at hz) (by simp; omega) 0
                simp only [List.length_nil, Nat.zero_add, List.nil_append, Array.empty_append] at hobn
                have hE := Ext.snoc g M (.sl (.slice (some ⟨w.heap.size, 0, none⟩) ys.length (grownCap w ys.length 0 e)) 0 (C.ti t).ty.size)
                have hownb : ∀ b, ownB (.sl 0 (C.ti t).ty ys) (.sl (.slice (some ⟨w.heap.size, 0, none⟩) ys.length (grownCap w ys.length 0 e)) 0 (C.ti t).ty.size) b → b = w.drew.heap.size := by
                  intro b hb'; simp only [ownB] at hb'; exact hb'.symm
                have hrd : HR H g M w.drew := HR.same (w := w) (w' := w.drew) rfl hr
                have hbd : Base w0 M0 own0 H g M w.drew := Base.same (w := w) (w' := w.drew) rfl rfl rfl rfl hb
                refine ⟨_, _, _, g ++ [.sl (.slice (some ⟨w.heap.size, 0, none⟩) ys.length (grownCap w ys.length 0 e)) 0 (C.ti t).ty.size], M, _, h, hrun, ?_, hrd.push (hobn _ hE) hownb, hbd.push hr.len hownb, hE⟩
                exact .obj _ 0 0 (C.ti t).ty.size (.slice (some ⟨w.heap.size, 0, none⟩) ys.length (grownCap w ys.length 0 e)) _ (by rw [hr.len, List.getElem?_append_right (Nat.le_refl _)]; simp) (Nat.le_refl _) (fun _ => rfl) rfl
        · -- fresh, and empty
          cases hx with
          | empty _ _ ad0 cap0 e0 z0 =>
          have := z0 rfl
          subst this
          cases ad0 with
          | none => cases e0
          | some a0 =>
          cases hg : (Nat.blt 0 ys.length && decide ((0 + ys.length) * (C.ti e).bytes ≤ 140737488355328)) with
          | false => simp only [hg, cond_false] at h
          | true =>
            simp only [hg, cond_true] at h
            simp only [Bool.and_eq_true, decide_eq_true_eq, Nat.blt_eq] at hg
            obtain ⟨hpos, hg⟩ := hg
            have h47 : 0 + ys.length ≤ 140737488355328 := Nat.le_trans (Nat.le_mul_of_pos_right _ E.bpos) hg
            obtain ⟨a, rfl, hcells⟩ : ∃ a, ad = some a ∧ ∀ j u, news[j]? = some u → w.cell? (a.add j) = some u := by
              rcases hL.cells with ⟨e, _⟩ | k
              · subst e; simp at hpos
              · exact k
            have hrun := run_append_grow (P := P) w t ty e i _ E.under i1 i4 a0 0 0 [] (by simp) (by intro j u hu; simp at hu) a ys.length cap news hlen hcells (by omega) (by omega) (growslice_fits (by omega) (by rw [i3]; exact hg))
            have hobn := fresh 0 [] [] (by simp) (by intro j z hz; simp at hz) (by simp; omega) 0
            simp only [List.length_nil, List.nil_append] at hobn
            have hE := Ext.snoc g M (.sl (.slice (some ⟨w.heap.size, 0, none⟩) (0 + ys.length) (grownCap w (0 + ys.length) 0 e)) 0 (C.ti t).ty.size)
            have hownb : ∀ b, ownB (.sl 0 (C.ti t).ty ys) (.sl (.slice (some ⟨w.heap.size, 0, none⟩) (0 + ys.length) (grownCap w (0 + ys.length) 0 e)) 0 (C.ti t).ty.size) b → b = w.drew.heap.size := by
              intro b hb'; simp only [ownB] at hb'; exact hb'.symm
            have hrd : HR H g M w.drew := HR.same (w := w) (w' := w.drew) rfl hr
            have hbd : Base w0 M0 own0 H g M w.drew := Base.same (w := w) (w' := w.drew) rfl rfl rfl rfl hb
            refine ⟨_, _, _, g ++ [.sl (.slice (some ⟨w.heap.size, 0, none⟩) (0 + ys.length) (grownCap w (0 + ys.length) 0 e)) 0 (C.ti t).ty.size], M, _, h, hrun, ?_, hrd.push (hobn _ hE) hownb, hbd.push hr.len hownb, hE⟩
            exact .obj _ 0 0 (C.ti t).ty.size (.slice (some ⟨w.heap.size, 0, none⟩) (0 + ys.length) (grownCap w (0 + ys.length) 0 e)) _ (by rw [hr.len, List.getElem?_append_right (Nat.le_refl _)]; simp) (Nat.le_refl _) (fun _ => rfl) rfl
        · -- append to what is owned
          rename_i id ver
          cases hx with
          | obj _ _ ver' sz hh _ h1 h2 h3 h4 =>
          split at h
          · rename_i ver2 t' xs hid
            have ho := hr.ob id _ _ hid h1
            cases hbq : Nat.beq ver ver2 with
            | false => simp [hbq] at h
            | true =>
            cases hbase : Nat.ble C.base id with
            | false => simp [hbq, hbase] at h
            | true =>
            simp only [hbq, hbase, Bool.and_self, cond_true] at h
            split at h
            · rename_i et
              subst et
              simp only at h
              cases hg : decide ((xs.length + ys.length) * (C.ti e).bytes ≤ 140737488355328) with
              | false => simp only [hg, cond_false] at h
              | true =>
              simp only [hg, cond_true] at h
              rw [decide_eq_true_eq] at hg
              have h47 : xs.length + ys.length ≤ 140737488355328 := Nat.le_trans (Nat.le_mul_of_pos_right _ E.bpos) hg
              have ho' := ho
              simp only [ObOk] at ho'
              obtain ⟨e1, e2, _, ho'⟩ := ho'
              have e3 := h3 (by rw [e1]; exact beq_true hbq)
              subst e2
              have e1' : ver' = ver2 := e1
              clear e1
              subst e1'
              subst e3
              have hle : ∀ (h' : Value), Gle (.sl vx ver' (C.ti t).ty.size) (.sl h' (ver' + 1) (C.ti t).ty.size) := fun h' => ⟨rfl, by omega, fun e => by omega⟩
              have fin : ∀ (val : Value) (w' : World), val.oneCell' = true → (Builtin.append_ #[t, t] ty #[vx, .slice ad ys.length cap]).run P w = .ok val w' → w.heap.size ≤ w'.heap.size → w'.os = w.os → w'.tape = w.tape → w'.output = w.output →
                  (∀ b, b < w.heap.size → ¬ ownB (.sl ver' (C.ti t).ty xs) (.sl vx ver' (C.ti t).ty.size) b → w'.heap[b]? = w.heap[b]?) →
                  ObOk (g.set id (.sl val (ver' + 1) (C.ti t).ty.size)) M w' (.sl (ver' + 1) (C.ti t).ty (xs ++ ys)) (.sl val (ver' + 1) (C.ti t).ty.size) →
                  (∀ b, ownB (.sl (ver' + 1) (C.ti t).ty (xs ++ ys)) (.sl val (ver' + 1) (C.ti t).ty.size) b → ownB (.sl ver' (C.ti t).ty xs) (.sl vx ver' (C.ti t).ty.size) b ∨ w.heap.size ≤ b) →
                  Made P w0 M0 own0 H g M w (Builtin.append_ #[t, t] ty #[vx, .slice ad ys.length cap]) K := by
                intro val w' ho1 hrun hs hos htp hout hkeep hob hown
                refine ⟨_, _, val, g.set id (.sl val (ver' + 1) (C.ti t).ty.size), M, w', h, hrun, ?_, hr.update hid h1 (hle val) hkeep hob hown, hb.update hid h1 (fun _ => .inl (Nat.le_trans hz (Nat.le_of_ble_eq_true hbase))) hs hos htp hout hkeep hown, ext_set h1 (hle val)⟩
                exact .obj id (ver' + 1) (ver' + 1) (C.ti t).ty.size val val (by rw [List.getElem?_set_self (lt_of_get h1)]) (Nat.le_refl _) (fun _ => rfl) ho1
              rcases ho' with ⟨rfl, rfl⟩ | ⟨b, scap, c, T, fz, rfl, k2, k3, k4, k5, k6, k7⟩
              · -- it was nil
                rcases hL.cells with ⟨rfl, rfl⟩ | ⟨a, rfl, hcells⟩
                · refine fin (.slice none 0 0) w rfl (run_append_none E.under i1 none ad 0 0 cap (Nat.le_refl _)) (Nat.le_refl _) rfl rfl rfl (fun _ _ _ => rfl) ?_ (fun b hb' => by simp [ownB] at hb')
                  simp only [ObOk]
                  exact ⟨trivial, trivial, ⟨E.pos, by simp⟩, .inl ⟨trivial, by simp⟩⟩
                · by_cases hy0 : ys = []
                  · subst hy0
                    refine fin (.slice none 0 0) w rfl (run_append_none E.under i1 none (some a) 0 0 cap (Nat.le_refl _)) (Nat.le_refl _) rfl rfl rfl (fun _ _ _ => rfl) ?_ (fun b hb' => by simp [ownB] at hb')
                    simp only [ObOk]
                    exact ⟨trivial, trivial, ⟨E.pos, by simp⟩, .inl ⟨trivial, by simp⟩⟩
                  · have hpos : 0 < ys.length := List.length_pos_iff.2 hy0
                    have hrun := run_append_nil (P := P) w t ty e i _ E.under i1 i4 a ys.length cap news hlen hcells hpos (by simp at h47; omega) (by rw [i3]; simp at hg; omega)
                    have hobn := fresh 0 [] [] (by simp) (by intro j z hz; simp at hz) (by simp at h47 ⊢; omega) (ver' + 1)
                    simp only [List.length_nil, Nat.zero_add, List.nil_append, Array.empty_append] at hobn
                    refine fin _ _ rfl hrun (by simp) rfl rfl rfl (fun b hbl _ => hkeepF _ b hbl) (hobn _ (ext_set h1 (hle _))) (fun b hb' => ?_)
                    simp only [ownB] at hb'
                    exact .inr (by omega)
              · by_cases hy0 : ys = []
                · subst hy0
                  refine fin (.slice (some ⟨b, 0, none⟩) xs.length scap) w rfl (run_append_none E.under i1 _ ad xs.length scap cap k3) (Nat.le_refl _) rfl rfl rfl (fun _ _ _ => rfl) ?_ (fun b' hb' => .inl hb')
                  simp only [ObOk, List.append_nil]
                  exact ⟨trivial, trivial, ⟨E.pos, by simp at h47; omega⟩, .inr ⟨b, scap, c, T, fz, rfl, k2, k3, k4, fun j z hz => (k5 j z hz).mono (ext_set h1 (hle _)), k6, k7⟩⟩
                · obtain ⟨a, rfl, hcells⟩ : ∃ a, ad = some a ∧ ∀ j u, news[j]? = some u → w.cell? (a.add j) = some u := by
                    rcases hL.cells with ⟨e, _⟩ | k
                    · exact absurd e hy0
                    · exact k
                  have hpos : 0 < ys.length := List.length_pos_iff.2 hy0
                  by_cases hroom : xs.length + ys.length ≤ scap
                  · have hm := Nat.mul_le_mul_right (C.ti t).ty.size hroom
                    rw [Nat.add_mul] at hm
                    have hfit : xs.length * i.size + news.length ≤ c.size := by rw [i2, hL.len]; omega
                    have hrun := run_append_in (P := P) (ty := ty) (c := cap) E.under i1 k2 k6.1 hlen hcells hone hroom hfit
                    refine fin _ _ rfl hrun (by rw [putRow_size]; exact Nat.le_refl _) rfl rfl rfl (fun b' hbl hne => putRow_other fun e => hne (by rw [e]; rfl)) ?_ (fun b' hb' => .inl hb')
                    simp only [ObOk]
                    refine ⟨trivial, trivial, ⟨E.pos, by rw [List.length_append]; omega⟩, .inr ⟨b, scap, _, T, fz, by rw [List.length_append], putRow_get (lt_of_cells k2), by rw [List.length_append]; exact hroom, by rw [toArray_size, setAtC_length]; simpa using k4, ?_, by rw [toArray_size, setAtC_length]; simpa using k6, k7⟩⟩
                    intro j z hz
                    rw [setAtC_split _ _ _ (by simpa using hfit)]
                    have hch : Chunks g M (C.ti t).ty xs c.toList := k5
                    have htk := hch.take
                    rw [i2]
                    have h1' := (htk.append (by rw [List.length_take]; simp; rw [i2] at hfit; omega) hL.chunks).more (ds := c.toList.drop (xs.length * (C.ti t).ty.size + news.length)) (by
                      simp only [List.length_append, List.length_take, Array.length_toList, hL.len, Nat.add_mul]
                      rw [Nat.min_eq_left (by rw [i2] at hfit; omega)]
                      exact Nat.le_refl _)
                    exact (h1' j z hz).mono (ext_set h1 (hle _))
                  · have hch : Chunks g M (C.ti t).ty xs c.toList := k5
                    have hcl := hch.length
                    have holds : ∀ j u, (c.toList.take (xs.length * i.size))[j]? = some u → w.cell? ((⟨b, 0, none⟩ : Addr).add j) = some u := by
                      intro j u hu
                      rw [Addr.add_lit, cell?_row k2]
                      rw [List.getElem?_take] at hu
                      split at hu
                      · simpa using hu
                      · cases hu
                    have hol : (c.toList.take (xs.length * i.size)).length = xs.length * i.size := by rw [List.length_take, i2]; simp at hcl ⊢; omega
                    have hrun := run_append_grow (P := P) w t ty e i _ E.under i1 i4 ⟨b, 0, none⟩ xs.length scap _ hol holds a ys.length cap news hlen hcells (by omega) (by omega) (growslice_fits (by omega) (by rw [i3]; exact hg))
                    have hobn := fresh scap xs _ hol (by rw [i2]; exact hch.take) (by omega) (ver' + 1) _ (ext_set h1 (hle (.slice (some ⟨w.heap.size, 0, none⟩) (xs.length + ys.length) (grownCap w (xs.length + ys.length) scap e))))
                    refine fin _ _ rfl hrun (by simp) rfl rfl rfl (fun b' hbl _ => hkeepF _ b' hbl) hobn (fun b' hb' => ?_)
                    simp only [ownB] at hb'
                    exact .inr (by omega)
            · exact h.elim
          · exact h.elim
        · exact h.elim
  · exact h.elim

/-! ### zeros are appended to nil -/
theorem chunks_zeros {t : Ty} {z : t.den} {zc : List Value} (hz : VRs g M (enc t z) zc) (hl : zc.length = t.size) : ∀ n, Chunks g M t (List.replicate n z) (List.replicate n zc).flatten := by
  intro n
  induction n with
  | zero => intro i x hx; simp at hx
  | succ n ih =>
    rw [List.replicate_succ, List.replicate_succ, List.flatten_cons]
    have h1 : Chunks g M t [z] zc := by
      intro i x hx
      cases i with
      | zero =>
        simp at hx
        subst hx
        rw [Nat.zero_mul, List.drop_zero, List.take_of_length_le (by omega)]
        exact hz
      | succ i => simp at hx
    exact h1.append (by rw [hl]; simp) ih

theorem appendZ_sound {own0 : Z} (L : LOk P C) (hr : HR H g M w) {w0 : World} {M0 : Mem} (hb : Base w0 M0 own0 H g M w) {t u : TypeId} {x y : V} {vx vy : Value} {ty : TypeId} (hx : VR g M x vx) (hy : VR g M y vy)
    {K : V → Heap → Prop} (h : appendZ C t u x y H K) : Made P w0 M0 own0 H g M w (Builtin.append_ #[t, u] ty #[vx, vy]) K := by
  unfold appendZ at h
  split at h
  · rename_i e hd
    split at h
    · rename_i hu
      cases hq : elemOk C t e with
      | false => simp only [hq, cond_false] at h
      | true =>
      simp only [hq, cond_true] at h
      have E := elemOk_sound L hd hq
      obtain ⟨i, i1, i2, i3, i4⟩ := E.info
      have Fu := (L.get (t := u) (.inl (by rw [hu]; simp))).under
      rw [hu] at Fu
      split at h
      · split at h
        · rename_i n
          split at h
          · rename_i z hz
            cases hx
            cases hy with
            | int _ _ rn =>
            cases hg : (decide (0 < n) && decide (n * (C.ti e).bytes ≤ 140737488355328)) with
            | false => simp only [hg, cond_false] at h
            | true =>
            simp only [hg, cond_true] at h
            simp only [Bool.and_eq_true, decide_eq_true_eq] at hg
            obtain ⟨g1, g2⟩ := hg
            obtain ⟨k, rfl⟩ : ∃ k : Nat, n = k := ⟨n.toNat, by omega⟩
            have g2 : k * (C.ti e).bytes ≤ 140737488355328 := by
              have h1 : ((k * (C.ti e).bytes : Nat) : Int) ≤ ((140737488355328 : Nat) : Int) := by rw [Int.natCast_mul]; exact g2
              exact Int.ofNat_le.1 h1
            have hk : 0 < k := by omega
            rw [Int.toNat_natCast] at h
            have h47 : k ≤ 140737488355328 := Nat.le_trans (Nat.le_mul_of_pos_right _ E.bpos) g2
            have hzv : VRs g M (zeroCells (C.ti e)) (C.ti e).zero.cells.toList := VRs_ofVal1 g M _
            obtain ⟨d1, _⟩ := dec_sound _ hz hzv
            rw [List.take_of_length_le (by simp [E.zl])] at d1
            have hzl : (C.ti e).zero.cells.toList.length = (C.ti t).ty.size := by simp [E.zl]
            have hzs : ∀ m, (Builtin.zeroCells (C.ti e).zero.cells m).toList = (List.replicate m (C.ti e).zero.cells.toList).flatten := by
              intro m
              unfold Builtin.zeroCells
              exact zeros_list _ _ rfl (by rw [E.zl]; have := E.pos; omega) m
            have hrun := Go.Lib.run_append_grow_zeros (P := P) w t u ty e i _ .i64 .i64 E.under Fu i1 i4 none 0 0 [] (by simp [Builtin.firstCells]) k hk (by rw [i2]; exact E.pos) (by omega) (by omega) (by rw [i3]; omega) (growslice_fits (by omega) (by rw [i3, Nat.zero_add]; exact g2))
            rw [Nat.zero_add] at hrun
            have hge := grownCap_ge w k 0 e
            have hE := Ext.snoc g M (.sl (.slice (some ⟨w.heap.size, 0, none⟩) k (grownCap w k 0 e)) 0 (C.ti t).ty.size)
            have hownb : ∀ b, ownB (.sl 0 (C.ti t).ty (List.replicate k z)) (.sl (.slice (some ⟨w.heap.size, 0, none⟩) k (grownCap w k 0 e)) 0 (C.ti t).ty.size) b → b = w.drew.heap.size := by
              intro b hb'; simp only [ownB] at hb'; exact hb'.symm
            have hrd : HR H g M w.drew := HR.same (w := w) (w' := w.drew) rfl hr
            have hbd : Base w0 M0 own0 H g M w.drew := Base.same (w := w) (w' := w.drew) rfl rfl rfl rfl hb
            have hobn : ObOk (g ++ [.sl (.slice (some ⟨w.heap.size, 0, none⟩) k (grownCap w k 0 e)) 0 (C.ti t).ty.size]) M (w.drew.alloc (.cells (([] : List Value).toArray ++ Builtin.zeroCells (C.ti e).zero.cells k ++ Builtin.zeroCells (C.ti e).zero.cells (grownCap w k 0 e - k)) e)) (.sl 0 (C.ti t).ty (List.replicate k z)) (.sl (.slice (some ⟨w.heap.size, 0, none⟩) k (grownCap w k 0 e)) 0 (C.ti t).ty.size) := by
              simp only [ObOk]
              refine ⟨trivial, trivial, ⟨E.pos, by rw [List.length_replicate]; omega⟩, .inr ⟨w.heap.size, _, _, e, (0, 0), by rw [List.length_replicate], heap_alloc_new w.drew _, by rw [List.length_replicate]; omega, ?_, ?_, clearT_zero _ _, ?_⟩⟩
              · simp only [Array.size_append, List.size_toArray, size_zeroCells, E.zl, List.length_nil, Nat.zero_add, ← Nat.add_mul]
                refine Nat.mul_le_mul_right _ ?_
                omega
              · intro j y hy
                have h1 := (chunks_zeros (g := g) (M := M) d1 hzl k).more (ds := (Builtin.zeroCells (C.ti e).zero.cells (grownCap w k 0 e - k)).toList) (by
                  rw [List.length_flatten]; simp [hzl])
                have := h1 j y hy
                simp only [Array.toList_append, List.nil_append, hzs] at this ⊢
                exact this.mono hE
              · cases hm : M w.heap.size with
                | none => rfl
                | some cs' =>
                  obtain ⟨c', T', fz', k1, k2⟩ := hr.mem _ _ hm
                  have := lt_of_cells k1
                  omega
            refine ⟨_, _, _, g ++ [.sl (.slice (some ⟨w.heap.size, 0, none⟩) k (grownCap w k 0 e)) 0 (C.ti t).ty.size], M, _, h, hrun, ?_, hrd.push hobn hownb, hbd.push hr.len hownb, hE⟩
            exact .obj _ 0 0 (C.ti t).ty.size (.slice (some ⟨w.heap.size, 0, none⟩) k (grownCap w k 0 e)) _ (by rw [hr.len, List.getElem?_append_right (Nat.le_refl _)]; simp) (Nat.le_refl _) (fun _ => rfl) rfl
          · exact h.elim
        · exact h.elim
      · exact h.elim
    · exact h.elim
  · exact h.elim

/-! ### cutting -/
theorem lo_int {v : V} {c : Value} (hv : VR g M v c) {l : Int} (h : loOf (some v) = some l) : ∃ k, c = .int k l := by
  cases v <;> simp only [loOf] at h <;> try (cases h; done)
  cases h
  cases hv
  exact ⟨_, rfl⟩
theorem hi_int {v : V} {c : Value} (hv : VR g M v c) {n : Nat} {l : Int} (h : hiOf n (some v) = some l) : ∃ k, c = .int k l := by
  cases v <;> simp only [hiOf] at h <;> try (cases h; done)
  cases h
  cases hv
  exact ⟨_, rfl⟩

theorem run_bounds {ρ : Operand → V} {ev : Operand → Value} {lo hi : Option Operand} (hlo : ∀ x, lo = some x → VR g M (ρ x) (ev x)) (hhi : ∀ x, hi = some x → VR g M (ρ x) (ev x))
    {l h : Int} {len : Nat} (hl : loOf (lo.map ρ) = some l) (hh : hiOf len (hi.map ρ) = some h) (h0 : 0 ≤ l) (h1 : l ≤ h) (h2 : h ≤ len) (isS : Bool) {cap : Nat} (hc : len ≤ cap) :
    (Instr.sliceBounds isS len cap (lo.map ev) (hi.map ev) none).run P w = .ok (l.toNat, h.toNat, cap) w := by
  cases lo with
  | none =>
    cases hl
    cases hi with
    | none => cases hh; simp [Instr.sliceBounds]
    | some y =>
      obtain ⟨k, e⟩ := hi_int (hhi y rfl) hh
      simp [Instr.sliceBounds, e, run_sliceBound _ k h cap _ (by omega) (by omega)]
  | some x =>
    obtain ⟨k, e⟩ := lo_int (hlo x rfl) hl
    cases hi with
    | none =>
      cases hh
      simp [Instr.sliceBounds, e, run_sliceBound _ k l len _ (by omega) (by omega)]
    | some y =>
      obtain ⟨k', e'⟩ := hi_int (hhi y rfl) hh
      simp [Instr.sliceBounds, e, e', run_sliceBound _ k' h cap _ (by omega) (by omega), run_sliceBound _ k l h.toNat _ (by omega) (by omega)]

theorem vec_cut {M' : Mem} {t : Ty} {xs : List t.den} {a : Option Addr} {cap : Nat} (hv : VR g M' (.vec t xs) (.slice a xs.length cap)) {l h : Nat} (h1 : l ≤ h) (h2 : h ≤ xs.length) :
    VR g M' (.vec t ((xs.take h).drop l)) (.slice (if cap = l then a else a.map (·.add (l * t.size))) (h - l) (cap - l)) := by
  by_cases hz : h = l
  · subst hz
    have : (xs.take h).drop h = [] := List.drop_eq_nil_of_le (by rw [List.length_take]; omega)
    rw [this, Nat.sub_self]
    exact .vecnil t _ _
  · generalize hc : Value.slice a xs.length cap = c at hv
    cases hv with
    | vecnil => simp at h2; omega
    | vec _ _ b off n cap' cs p1 p2 p3 p4 =>
      cases hc
      rw [if_neg (by omega)]
      simp only [Option.map_some, Addr.add_lit]
      refine .vec t ((xs.take h).drop l) b (off + l * t.size) (h - l) (cap - l) cs p1 ⟨by rw [List.length_drop, List.length_take]; omega, by omega⟩ (by omega) fun i x hx => ?_
      rw [List.getElem?_drop, List.getElem?_take] at hx
      split at hx
      · have := p4 (l + i) x hx
        rw [Nat.add_mul, ← Nat.add_assoc] at this
        exact this
      · cases hx

theorem vr_len {M' : Mem} {t : Ty} {xs : List t.den} {c : Value} (hv : VR g M' (.vec t xs) c) : ∃ a cap, c = .slice a xs.length cap ∧ xs.length ≤ cap := by
  cases hv with
  | vecnil _ ad cap => exact ⟨ad, cap, rfl, Nat.zero_le _⟩
  | vec _ _ b off n cap cs p1 p2 p3 p4 => exact ⟨some ⟨b, off, none⟩, cap, by rw [← p2.1], by rw [← p2.1]; exact p3⟩

theorem sliceV_sound {own0 : Z} (L : LOk P C) (hz : own0.n ≤ C.base) (hr : HR H g M w) {w0 : World} {M0 : Mem} (hb : Base w0 M0 own0 H g M w) {t : TypeId} {x : V} {vx : Value} {lo hi : Option Operand} {ρ : Operand → V} {ev : Operand → Value} (hx : VR g M x vx)
    (hlo : ∀ x, lo = some x → VR g M (ρ x) (ev x)) (hhi : ∀ x, hi = some x → VR g M (ρ x) (ev x))
    {K : V → Heap → Prop} (h : sliceV C t x (lo.map ρ) (hi.map ρ) H K) : Made P w0 M0 own0 H g M w (Instr.sliceAt t vx (lo.map ev) (hi.map ev) none) K := by
  unfold sliceV at h
  split at h
  · exact h.elim
  · rename_i l hl
    split at h
    · rename_i hd
      have F := (L.get (t := t) (.inl (by rw [hd]; simp))).under
      rw [hd] at F
      split at h
      · rename_i s
        generalize hs' : vx = vx' at hx
        cases hx with
        | str bs _ e1 e2 =>
        subst hs'
        split at h
        · rename_i hh hhe
          cases hg : (decide (0 ≤ l) && (decide (l ≤ hh) && decide (hh ≤ (s.length : Int)))) with
          | false => simp only [hg, cond_false] at h
          | true =>
            simp only [hg, cond_true] at h
            simp only [Bool.and_eq_true, decide_eq_true_eq] at hg
            obtain ⟨g1, g2, g3⟩ := hg
            have hsz : bs.size = s.length := by rw [← e1]; exact size_eq_length bs
            have hbd := run_bounds (P := P) (w := w) hlo hhi hl (by rw [← hsz] at hhe; exact hhe) g1 g2 (by rw [hsz]; exact g3) false (Nat.le_refl bs.size)
            refine ⟨_, _, .string (bs.extract l.toNat hh.toNat), g, M, w, h, ?_, .str _ _ ?_ ?_, hr, hb, Ext.refl g M⟩
            · rw [run_sliceAt_string w t _ _ _ _ F]
              simp [Instr.slice, run_underlying F, hbd]
            · rw [ByteArray.data_extract, Array.toList_extract, List.extract_eq_take_drop, e1, List.drop_take]
            · rw [List.length_drop, List.length_take]; omega
        · exact h.elim
      · exact h.elim
    · rename_i n e hd
      have F := (L.get (t := t) (.inl (by rw [hd]; simp))).under
      rw [hd] at F
      split at h
      · rename_i id off
        cases hq : (Nat.beq off 0 && ((lo.map ρ).isNone && ((hi.map ρ).isNone && (Nat.blt 0 n && (Nat.ble n 1000 && !Nat.beq (C.ti e).size 0))))) with
        | false => simp only [hq, cond_false] at h
        | true =>
          simp only [hq, cond_true] at h
          simp only [Bool.and_eq_true] at hq
          obtain ⟨q1, q2, q3, q4, q5, q6⟩ := hq
          have q1 := beq_true q1
          have q4 : 0 < n := by rwa [Nat.blt_eq] at q4
          have q5 := Nat.le_of_ble_eq_true q5
          subst q1
          have q2 : lo = none := by cases lo with | none => rfl | some _ => cases q2
          have q3 : hi = none := by cases hi with | none => rfl | some _ => cases q3
          subst q2
          subst q3
          have Fe := L.get (t := e) (.inr (fun e' => by rw [e'] at q6; cases q6))
          split at h
          · rename_i k hk
            cases hx with
            | ptr _ _ b hb' =>
              refine ⟨_, _, .slice (some ⟨b, 0, none⟩) n n, g, M, w, h, ?_, .psl id b _ n hb' (by omega), hr, hb, Ext.refl g M⟩
              cases hl
              have hbd := run_bounds (P := P) (w := w) (l := 0) (h := (n : Int)) (len := n) (cap := n) (lo := none) (hi := none) hlo hhi rfl rfl (Int.le_refl 0) (Int.natCast_nonneg n) (Int.le_refl _) false (Nat.le_refl n)
              simp only [Option.map_none] at hbd
              simp only [Instr.sliceAt, Sem.run_bind, Go.run_underlying F, Result.andThen_ok, Option.map_none, Instr.sureAddr, Sem.run_pure, hbd, Fe.run_sizeOf]
              simp [Addr.add_lit]
          · exact h.elim
      · exact h.elim
    · rename_i e hd
      have F := L.get (t := t) (.inl (by rw [hd]; simp))
      have Fu := F.under
      rw [hd] at Fu
      cases hq : (Nat.beq (C.ti e).size (C.ti t).ty.size && !Nat.beq (C.ti e).size 0) with
      | false => simp only [hq, cond_false] at h
      | true =>
      simp only [hq, cond_true] at h
      simp only [Bool.and_eq_true] at hq
      have hq0 : (C.ti e).size ≠ 0 := fun e' => by have := hq.2; rw [e'] at this; cases this
      have hq := beq_true hq.1
      have Fe := L.get (t := e) (.inr hq0)
      have run : ∀ {n : Nat} {a : Option Addr} {cap : Nat} {hh : Int}, hiOf n (hi.map ρ) = some hh → 0 ≤ l → l ≤ hh → hh ≤ n → n ≤ cap →
          (Instr.sliceAt t (.slice a n cap) (lo.map ev) (hi.map ev) none).run P w = .ok (.slice (if cap = l.toNat then a else a.map (·.add (l.toNat * (C.ti t).ty.size))) (hh.toNat - l.toNat) (cap - l.toNat)) w := by
        intro n a cap hh hhe g1 g2 g3 hc
        have hbd := run_bounds (P := P) (w := w) hlo hhi hl hhe g1 g2 g3 true hc
        have h1 : (Instr.sliceAt t (.slice a n cap) (lo.map ev) (hi.map ev) none).run P w = (Instr.slice t (.slice a n cap) (lo.map ev) (hi.map ev) none).run P w := by
          simp [Instr.sliceAt, run_underlying Fu]
        rw [h1]
        simp [Instr.slice, run_underlying Fu, hbd, Fe.run_sizeOf, hq]
      -- a view is cut
      have view : ∀ {xs : List (C.ti t).ty.den} {hh : Int} {H1 : Heap} {M1 : Mem}, HR H1 g M1 w → Base w0 M0 own0 H1 g M1 w → (∀ b cs, M b = some cs → M1 b = some cs) → VR g M1 (.vec (C.ti t).ty xs) vx → hiOf xs.length (hi.map ρ) = some hh →
          cond (decide (0 ≤ l) && (decide (l ≤ hh) && decide (hh ≤ (xs.length : Int)))) (K (.vec (C.ti t).ty ((xs.take hh.toNat).drop l.toNat)) H1) False → Made P w0 M0 own0 H g M w (Instr.sliceAt t vx (lo.map ev) (hi.map ev) none) K := by
        intro xs hh H1 M1 hr1 hb1 hle hv hhe hk
        cases hg : (decide (0 ≤ l) && (decide (l ≤ hh) && decide (hh ≤ (xs.length : Int)))) with
        | false => simp only [hg, cond_false] at hk
        | true =>
          simp only [hg, cond_true] at hk
          simp only [Bool.and_eq_true, decide_eq_true_eq] at hg
          obtain ⟨g1, g2, g3⟩ := hg
          obtain ⟨a, cap, rfl, hc⟩ := vr_len hv
          refine ⟨_, _, _, g, M1, w, hk, run hhe g1 g2 g3 hc, vec_cut hv (by omega) (by omega), hr1, hb1, Ext.mem hle⟩
      split at h
      · rename_i ty xs
        split at h
        · rename_i et
          subst et
          split at h
          · rename_i hh hhe
            exact view hr hb (fun _ _ h => h) hx hhe h
          · exact h.elim
        · exact h.elim
      · split at h
        · rename_i hh hhe
          cases hx
          cases hg : (decide (0 ≤ l) && (decide (l ≤ hh) && decide (hh ≤ 0))) with
          | false => simp only [hg, cond_false] at h
          | true =>
            simp only [hg, cond_true] at h
            simp only [Bool.and_eq_true, decide_eq_true_eq] at hg
            obtain ⟨g1, g2, g3⟩ := hg
            have h0 : l.toNat = 0 := by omega
            have h1 : hh.toNat = 0 := by omega
            have hrun := run (n := 0) (a := none) (cap := 0) hhe g1 g2 (by simpa using g3) (Nat.le_refl _)
            rw [h0, h1] at hrun
            exact ⟨_, _, _, g, M, w, h, hrun, .nils, hr, hb, Ext.refl g M⟩
        · exact h.elim
      · rename_i id ver
        cases hx with
        | obj _ _ ver' sz vh _ h1 h2 h3 h4 =>
        split at h
        · rename_i ver2 ty xs hid
          split at h
          · rename_i et
            subst et
            cases hbq : Nat.beq ver ver2 with
            | false => simp [hbq] at h
            | true =>
              simp only [hbq, cond_true] at h
              have ho := hr.ob id _ _ hid h1
              have ho0 := ho
              simp only [ObOk] at ho
              have e3 := h3 (by rw [ho.1]; exact beq_true hbq)
              subst e3
              split at h
              · rename_i hh hhe
                cases hmv : (C.mv && (Nat.beq l.toNat 0 && Nat.ble C.base id)) with
                | true =>
                  simp only [hmv, cond_true] at h
                  simp only [Bool.and_eq_true] at hmv
                  have hl0 : l.toNat = 0 := beq_true hmv.2.1
                  cases hg : (decide (0 ≤ l) && (decide (l ≤ hh) && decide (hh ≤ (xs.length : Int)))) with
                  | false => simp only [hg, cond_false] at h
                  | true =>
                  simp only [hg, cond_true] at h
                  simp only [Bool.and_eq_true, decide_eq_true_eq] at hg
                  obtain ⟨g1, g2, g3⟩ := hg
                  have hlt : (xs.take hh.toNat).length = hh.toNat := by rw [List.length_take]; omega
                  obtain ⟨e1, e2, hp, ho'⟩ := ho
                  subst e2
                  subst e1
                  have hle : ∀ (h' : Value), Gle (.sl vx ver' (C.ti t).ty.size) (.sl h' (ver' + 1) (C.ti t).ty.size) := fun h' => ⟨rfl, by omega, fun e => by omega⟩
                  have fin : ∀ (val : Value), val.oneCell' = true → (Instr.sliceAt t vx (lo.map ev) (hi.map ev) none).run P w = .ok val w →
                      ObOk (g.set id (.sl val (ver' + 1) (C.ti t).ty.size)) M w (.sl (ver' + 1) (C.ti t).ty (xs.take hh.toNat)) (.sl val (ver' + 1) (C.ti t).ty.size) →
                      (∀ b, ownB (.sl (ver' + 1) (C.ti t).ty (xs.take hh.toNat)) (.sl val (ver' + 1) (C.ti t).ty.size) b → ownB (.sl ver' (C.ti t).ty xs) (.sl vx ver' (C.ti t).ty.size) b ∨ w.heap.size ≤ b) →
                      Made P w0 M0 own0 H g M w (Instr.sliceAt t vx (lo.map ev) (hi.map ev) none) K := by
                    intro val ho1 hrun hob hown
                    refine ⟨_, _, val, g.set id (.sl val (ver' + 1) (C.ti t).ty.size), M, w, h, hrun, ?_, hr.update hid h1 (hle val) (fun _ _ _ => rfl) hob hown, hb.update hid h1 (fun _ => .inl (Nat.le_trans hz (Nat.le_of_ble_eq_true hmv.2.2))) (Nat.le_refl _) rfl rfl rfl (fun _ _ _ => rfl) hown, ext_set h1 (hle val)⟩
                    exact .obj id (ver' + 1) (ver' + 1) (C.ti t).ty.size val val (by rw [List.getElem?_set_self (lt_of_get h1)]) (Nat.le_refl _) (fun _ => rfl) ho1
                  rcases ho' with ⟨e5, e6⟩ | ⟨b, scap, c, T, fz, e5, k2, k3, k4, k5, k6, k7⟩
                  · subst e5
                    subst e6
                    have h00 : hh.toNat = 0 := by simp at g3; omega
                    have hrun := run (n := 0) (a := none) (cap := 0) hhe g1 g2 (by simpa using g3) (Nat.le_refl _)
                    rw [hl0, h00] at hrun
                    refine fin (.slice none 0 0) rfl (by simpa using hrun) ?_ (fun b hb' => by simp [ownB] at hb')
                    simp only [ObOk]
                    exact ⟨trivial, trivial, ⟨hp.1, by simp⟩, .inl ⟨trivial, by simp⟩⟩
                  · subst e5
                    have hrun := run (n := xs.length) (a := some ⟨b, 0, none⟩) (cap := scap) hhe g1 g2 g3 k3
                    rw [hl0] at hrun
                    have hval : (Value.slice (if scap = 0 then some ⟨b, 0, none⟩ else (some (⟨b, 0, none⟩ : Addr)).map (·.add (0 * (C.ti t).ty.size))) (hh.toNat - 0) (scap - 0)) = .slice (some ⟨b, 0, none⟩) hh.toNat scap := by
                      split <;> simp [Addr.add_lit]
                    rw [hval] at hrun
                    refine fin (.slice (some ⟨b, 0, none⟩) hh.toNat scap) rfl hrun ?_ (fun b' hb' => .inl hb')
                    simp only [ObOk]
                    refine ⟨trivial, trivial, ⟨hp.1, by have := hp.2; omega⟩, .inr ⟨b, scap, c, T, fz, by rw [hlt], k2, by omega, k4, fun j z hz => ?_, k6, k7⟩⟩
                    rw [List.getElem?_take] at hz
                    split at hz
                    · exact (k5 j z hz).mono (ext_set h1 (hle _))
                    · cases hz
                | false =>
                simp only [hmv, cond_false] at h
                obtain ⟨M1, p1, p2, p3, p4⟩ := fz_sound hr hb hid h1
                exact view p1 p2 p3 p4 hhe h
              · exact h.elim
          · exact h.elim
        · rename_i ver2 ty xs hid
          split at h
          · rename_i et
            subst et
            cases hbq : Nat.beq ver ver2 with
            | false => simp [hbq] at h
            | true =>
              simp only [hbq, cond_true] at h
              have ho := hr.ob id _ _ hid h1
              simp only [ObOk] at ho
              have e3 := h3 (by rw [ho.1]; exact beq_true hbq)
              subst e3
              split at h
              · rename_i hh hhe
                exact view hr hb (fun _ _ h => h) ho.2.2 hhe h
              · exact h.elim
          · exact h.elim
        · exact h.elim
      · exact h.elim
    · exact h.elim

theorem maxV_sound {x y : V} {vx vy : Value} (hx : VR g M x vx) (hy : VR g M y vy) {ts : Array TypeId} {ty : TypeId} {K : V → Prop} (h : maxV x y K) : ∃ v val, K v ∧ VR g M v val ∧ (Builtin.max_ ts ty #[vx, vy]).run P w = .ok val w := by
  unfold maxV at h
  split at h
  · rename_i k a
    split at h
    · rename_i k' b
      have ra : k.min ≤ a ∧ a ≤ k.max ∧ vx = .int k a := by cases hx with | int _ _ r => exact ⟨r.1, r.2, rfl⟩
      have rb : k'.min ≤ b ∧ b ≤ k'.max ∧ vy = .int k' b := by cases hy with | int _ _ r => exact ⟨r.1, r.2, rfl⟩
      obtain ⟨ra1, ra2, rfl⟩ := ra
      obtain ⟨rb1, rb2, rfl⟩ := rb
      have ra : k.min ≤ a ∧ a ≤ k.max := ⟨ra1, ra2⟩
      have rb : k'.min ≤ b ∧ b ≤ k'.max := ⟨rb1, rb2⟩
      split at h
      · rename_i e
        subst e
        refine ⟨_, _, h, ?_, run_max_int2 w ts ty k k a b⟩
        by_cases hb : b > a
        · rw [decide_eq_true hb, if_pos hb]; exact .int _ _ rb
        · rw [decide_eq_false hb, if_neg hb]; exact .int _ _ ra
      · exact h.elim
    · exact h.elim
  · exact h.elim
theorem minV_sound {x y : V} {vx vy : Value} (hx : VR g M x vx) (hy : VR g M y vy) {ts : Array TypeId} {ty : TypeId} {K : V → Prop} (h : minV x y K) : ∃ v val, K v ∧ VR g M v val ∧ (Builtin.min_ ts ty #[vx, vy]).run P w = .ok val w := by
  unfold minV at h
  split at h
  · rename_i k a
    split at h
    · rename_i k' b
      have ra : k.min ≤ a ∧ a ≤ k.max ∧ vx = .int k a := by cases hx with | int _ _ r => exact ⟨r.1, r.2, rfl⟩
      have rb : k'.min ≤ b ∧ b ≤ k'.max ∧ vy = .int k' b := by cases hy with | int _ _ r => exact ⟨r.1, r.2, rfl⟩
      obtain ⟨ra1, ra2, rfl⟩ := ra
      obtain ⟨rb1, rb2, rfl⟩ := rb
      have ra : k.min ≤ a ∧ a ≤ k.max := ⟨ra1, ra2⟩
      have rb : k'.min ≤ b ∧ b ≤ k'.max := ⟨rb1, rb2⟩
      split at h
      · rename_i e
        subst e
        refine ⟨_, _, h, ?_, run_min_int2 w ts ty k k a b⟩
        by_cases hb : b < a
        · rw [decide_eq_true hb, if_pos hb]; exact .int _ _ rb
        · rw [decide_eq_false hb, if_neg hb]; exact .int _ _ ra
      · exact h.elim
    · exact h.elim
  · exact h.elim
end
end Go.Ev
