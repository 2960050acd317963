/- Bytes and strings, turned into one another; and a Builder that is made. -/
import Derived.Test.YtfdalaakechldaaEvMem3
import Derived.Laws.IdiomStrings
set_option linter.unusedVariables false
set_option linter.unusedSimpArgs false
namespace Go.Ev

section
variable {P : Program} {C : Ctx} {g : List G} {M : Mem} {w : World} {H : Heap}

theorem bytes_back : ∀ (l : List UInt8), toU8 (ofU8 l) = l
  | [] => rfl
  | b :: l => by
    have := bytes_back l
    simp only [toU8, ofU8, List.map_cons, List.map_map, List.cons.injEq] at this ⊢
    exact ⟨by simp, this⟩

theorem foldl_push_ints : ∀ (ns : List Int) (r : ByteArray), ns.foldl (fun r n => r.push (UInt8.ofNat n.toNat)) r = ⟨r.data ++ (toU8 ns).toArray⟩
  | [], r => by simp [toU8]
  | n :: ns, r => by
    simp only [List.foldl_cons]
    rw [foldl_push_ints ns]
    simp [ByteArray.push, toU8]

theorem u8_cells {ns : List Int} {news : List Value} (h : Chunks g M (.int .u8) ns news) (hl : news.length = ns.length * 1) : news = ns.map (Value.int .u8) := by
  apply List.ext_getElem?
  intro i
  rw [List.getElem?_map]
  cases e : ns[i]? with
  | none =>
    have : ns.length ≤ i := by
      rcases Nat.lt_or_ge i ns.length with h' | h'
      · rw [List.getElem?_eq_getElem h'] at e; cases e
      · exact h'
    rw [List.getElem?_eq_none (by omega)]; rfl
  | some n =>
    have h1 := h i n e
    have hi := lt_of_get e
    simp only [enc, Ty.size, Nat.mul_one] at h1
    cases e2 : news[i]? with
    | none =>
      exfalso
      have : i < news.length := by omega
      rw [List.getElem?_eq_getElem this] at e2; cases e2
    | some c =>
      have e3 : (news.drop i).take 1 = [c] := by
        apply List.ext_getElem?
        intro j
        rw [List.getElem?_take, List.getElem?_drop]
        cases j with
        | zero => simp [e2]
        | succ j => simp
      rw [e3] at h1
      cases h1 with
      | cons a b => cases a; rfl

theorem bytesToStrV_sound (L : LOk P C) (hr : HR H g M w) {s d : TypeId} {x : V} {c : Value} (hx : VR g M x c) {K : V → Prop} (h : bytesToStrV C s d x H K) : SemOk P g M w (convert s d c) K := by
  unfold bytesToStrV at h
  split at h
  · rename_i e hs
    split at h
    · rename_i hd
      split at h
      · rename_i he
        split at h
        · rename_i xs hxs
          obtain ⟨ad, cap, news, hL⟩ := listOf_sound hr hx hxs
          have Fs := (L.get (t := s) (.inl (by rw [hs]; simp))).under
          rw [hs] at Fs
          have Fd := (L.get (t := d) (.inl (by rw [hd]; simp))).under
          rw [hd] at Fd
          have Fe := (L.get (t := e) (.inl (by rw [he]; simp))).under
          rw [he] at Fe
          have hnews := u8_cells hL.chunks hL.len
          have hv := hL.val
          subst hv
          refine SemOk.pure (v := .str (toU8 xs)) (val := .string ⟨(toU8 xs).toArray⟩) h (.str _ _ rfl (by simp [toU8]; exact hL.small)) ?_
          rw [run_convert_bytes_string w s d e ad xs.length cap Fs Fe Fd]
          rcases hL.cells with ⟨rfl, rfl⟩ | ⟨a, rfl, hc⟩
          · cases ad with
            | none => simp [Conv.bytesToString, toU8]; rfl
            | some a => simp [Conv.bytesToString, loadCells, loadCellsFrom, toU8]; rfl
          · have hld := run_loadCells_list (P := P) w a news hc
            rw [hL.len] at hld
            simp only [Ty.size, Nat.mul_one] at hld
            rw [hnews] at hld
            rw [run_bytesToString w a xs.length cap xs hld, foldl_push_ints]
            have : ByteArray.empty.data = #[] := rfl
            rw [this]
            simp
        · exact h.elim
      · exact h.elim
    · exact h.elim
  · exact h.elim

theorem strToBytesV_sound (L : LOk P C) (hr : HR H g M w) {w0 : World} {M0 : Mem} {own0 : Z} (hb : Base w0 M0 own0 H g M w) {s d : TypeId} {x : V} {c : Value} (hx : VR g M x c) {K : V → Heap → Prop} (h : strToBytesV C s d x H K) :
    Made P w0 M0 own0 H g M w (convert s d c) K := by
  unfold strToBytesV at h
  split at h
  · rename_i hs
    split at h
    · rename_i e hd
      split at h
      · rename_i he
        split at h
        · rename_i l
          split at h
          · rename_i ht
            have Fs := (L.get (t := s) (.inl (by rw [hs]; simp))).under
            rw [hs] at Fs
            have Fd := (L.get (t := d) (.inl (by rw [hd]; simp))).under
            rw [hd] at Fd
            have Fe := (L.get (t := e) (.inl (by rw [he]; simp))).under
            rw [he] at Fe
            generalize hc' : c = c' at hx
            cases hx with
            | str bs _ e1 e2 =>
            subst hc'
            have hrun := run_bytes_of_string (P := P) w s d e bs Fs Fd Fe
            have hsz : bs.size = l.length := by rw [← e1]; exact size_eq_length bs
            have hge := grownCap_ge w bs.size 0 e
            have hcell : (bytesRow bs (grownCap w bs.size 0 e)).size = grownCap w bs.size 0 e := by
              have : bs.data.size = bs.size := rfl
              simp only [bytesRow, Array.size_append, Array.size_map, Array.size_replicate]
              omega
            have hrd : HR H g M w.drew := HR.same (w := w) (w' := w.drew) rfl hr
            have hbd : Base w0 M0 own0 H g M w.drew := Base.same (w := w) (w' := w.drew) rfl rfl rfl rfl hb
            have hE := Ext.snoc g M (.sl (.slice (some ⟨w.heap.size, 0, none⟩) bs.size (grownCap w bs.size 0 e)) 0 1)
            have hownb : ∀ b, ownB (.sl 0 (.int .u8) (ofU8 l)) (.sl (.slice (some ⟨w.heap.size, 0, none⟩) bs.size (grownCap w bs.size 0 e)) 0 1) b → b = w.drew.heap.size := by
              intro b hb'; simp only [ownB] at hb'; exact hb'.symm
            refine ⟨_, _, _, g ++ [.sl (.slice (some ⟨w.heap.size, 0, none⟩) bs.size (grownCap w bs.size 0 e)) 0 1], M, _, h, hrun, ?_, hrd.push ?_ hownb, hbd.push hr.len hownb, hE⟩
            · exact .obj _ 0 0 1 (.slice (some ⟨w.heap.size, 0, none⟩) bs.size (grownCap w bs.size 0 e)) _ (by rw [hr.len, List.getElem?_append_right (Nat.le_refl _)]; simp) (Nat.le_refl _) (fun _ => rfl) rfl
            · simp only [ObOk]
              have hll : (ofU8 l).length = bs.size := by simp [ofU8, hsz]
              refine ⟨trivial, rfl, ⟨by decide, by rw [hll, hsz]; exact e2⟩, .inr ⟨w.heap.size, grownCap w bs.size 0 e, bytesRow bs (grownCap w bs.size 0 e), e, _, by rw [hll], heap_alloc_new w.drew _, by rw [hll]; exact hge, by rw [hcell]; simp [Ty.size], ?_, ?_, ?_⟩⟩
              · intro i x hi
                have hil := lt_of_get hi
                rw [hll] at hil
                simp only [ofU8, List.getElem?_map, Option.map_eq_some_iff] at hi
                obtain ⟨b, hb1, rfl⟩ := hi
                simp only [Ty.size, Nat.mul_one]
                have : ((bytesRow bs (grownCap w bs.size 0 e)).toList.drop i).take 1 = [.int .u8 (b.toNat : Int)] := by
                  apply List.ext_getElem?
                  intro j
                  rw [List.getElem?_take, List.getElem?_drop]
                  cases j with
                  | zero =>
                    simp only [bytesRow, Array.toList_append, Array.toList_map]
                    rw [if_pos (by omega), Nat.add_zero, List.getElem?_append_left (by simp; exact hil), List.getElem?_map, e1, hb1]
                    rfl
                  | succ j => simp
                rw [this]
                refine .cons (.int _ _ ?_) .nil
                have e3 : IntKind.u8.min = 0 := rfl
                have e4 : IntKind.u8.max = 255 := rfl
                have := b.toNat_lt
                omega
              · refine ⟨fun i hi hc => ?_, .inl rfl⟩
                simp only at hc
                omega
              · cases hm : M w.heap.size with
                | none => rfl
                | some cs' =>
                  obtain ⟨c', T', fz', k1, k2⟩ := hr.mem _ _ hm
                  have := lt_of_cells k1
                  omega
          · exact h.elim
        · exact h.elim
      · exact h.elim
    · exact h.elim
  · exact h.elim

theorem byteCells_nil : Lib.byteCells [] = [] := rfl

theorem bldOf_sound (L : LOk P C) {t e : TypeId} (h : bldOf C t = some e) : Facts P t (C.ti t) ∧ (C.ti t).zero.cells = #[.pointer none, .slice none 0 0] := by
  unfold bldOf at h
  split at h
  · rename_i fs hd
    have F := L.get (t := t) (.inl (by rw [hd]; simp))
    split at h
    · rename_i f1 f2 hfs
      split at h
      · rename_i t' ht'
        cases hbq : Nat.beq t' t with
        | false => simp only [hbq, cond_false] at h; cases h
        | true =>
          simp only [hbq, cond_true] at h
          split at h
          · split at h
            · split at h
              · rename_i hz
                refine ⟨F, ?_⟩
                have hv : VRs ([] : List G) (fun _ => none) (zeroCells (C.ti t)) (C.ti t).zero.cells.toList := VRs_ofVal1 _ _ _
                rw [hz] at hv
                apply Array.ext'
                generalize (C.ti t).zero.cells.toList = l at hv
                cases hv with
                | cons a r =>
                  cases r with
                  | cons b r =>
                    cases r
                    cases a; cases b
                    rfl
              · cases h
            · cases h
          · cases h
      · cases h
    · cases h
  · cases h

theorem bld_alloc (L : LOk P C) (hr : HR H g M w) {w0 : World} {M0 : Mem} {own0 : Z} (hb : Base w0 M0 own0 H g M w) {t e : TypeId} (he : bldOf C t = some e) {K : V → Heap → Prop} (h : K (.bptr H.length) (H ++ [.bld t e []])) {R : Prop}
    (hk : ∀ v H', K v H' → ∀ val g' w', (Instr.alloc t true (.tuple #[])).run P w = .ok val w' → VR g' M v val → HR H' g' M w' → Base w0 M0 own0 H' g' M w' → Ext g M g' M → R) : R := by
  obtain ⟨F, hz⟩ := bldOf_sound L he
  have hE := Ext.snoc g M (.bld w.heap.size none)
  have hownb : ∀ b, ownB (.bld t e []) (.bld w.heap.size none) b → b = w.heap.size := by
    intro b hb'
    rcases hb' with h | h
    · exact h.symm
    · cases h
  refine hk _ _ h (.pointer (some ⟨w.heap.size, 0, none⟩)) (g ++ [.bld w.heap.size none]) (w.alloc (.cells #[.pointer none, .slice none 0 0] t)) ?_ ?_ (hr.push ?_ hownb) (hb.push hr.len hownb) hE
  · simp [Instr.alloc, F.run_zeroValue, newVar, newRow, hz]
  · exact .bptr _ _ none (by rw [hr.len, List.getElem?_append_right (Nat.le_refl _)]; simp)
  · simp only [ObOk]
    refine ⟨.pointer none, .slice none 0 0, by show (w.heap.push _)[_]? = _; simp, .inl rfl, ?_, rfl, by simp, ?_, by simp, fun _ => rfl⟩
    · rw [byteCells_nil]; exact World.ownsRowF_nil _ _ _ _
    · cases hm : M w.heap.size with
      | none => rfl
      | some cs' =>
        obtain ⟨c', T', fz', k1, k2⟩ := hr.mem _ _ hm
        have := lt_of_cells k1
        omega
end
end Go.Ev
