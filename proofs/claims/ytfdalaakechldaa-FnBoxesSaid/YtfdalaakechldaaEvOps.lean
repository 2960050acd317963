/- Each operation of the model does what the evaluator says of it. -/
import Derived.Test.YtfdalaakechldaaEvDC
import Derived.Laws.Cells
import Derived.Laws.Slices
import Derived.Laws.Tables
set_option linter.unusedVariables false
set_option linter.unusedSimpArgs false
namespace Go.Ev

/-- What a table's row says of a type of the program. -/
structure Facts (P : Program) (t : TypeId) (i : TI) : Prop where
  under : P.underlying t = some i.desc
  info : ∃ x, P.info? t = some x ∧ x.size = i.size ∧ x.bytes = i.bytes ∧ x.zero = some i.zero
  eqok : i.eqok = true → P.eqGuardType P.depth t = false ∧ P.stoodInHeld t = false

def LOk (P : Program) (C : Ctx) : Prop := ∀ t, (C.ti t).desc ≠ .invalid ∨ (C.ti t).size ≠ 0 → Facts P t (C.ti t)

theorem LOk.get {P : Program} {C : Ctx} (L : LOk P C) {t : TypeId} (h : (C.ti t).desc ≠ .invalid ∨ (C.ti t).size ≠ 0) : Facts P t (C.ti t) := L t h

/-- The program's own table; the elements' types beside it. -/
def tiOf (P : Program) (ty : TypeId → Ty) (t : TypeId) : TI :=
  match P.info? t with
  | some x => match P.underlying t with
    | some d => match x.zero with
      | some z => ⟨d, x.size, x.bytes, z, ty t, !P.eqGuardType P.depth t && !P.stoodInHeld t⟩
      | none => default
    | none => default
  | none => default

theorem lok_tiOf (P : Program) (ty : TypeId → Ty) (C : Ctx) (h : C.ti = tiOf P ty) : LOk P C := by
  intro t ht
  rw [h] at ht ⊢
  unfold tiOf at ht ⊢
  cases hi : P.info? t with
  | none => simp only [hi] at ht; rcases ht with k | k <;> exact absurd rfl k
  | some x =>
    simp only [hi] at ht ⊢
    cases hu : P.underlying t with
    | none => simp only [hu] at ht; rcases ht with k | k <;> exact absurd rfl k
    | some d =>
      simp only [hu] at ht ⊢
      cases hz : x.zero with
      | none => simp only [hz] at ht; rcases ht with k | k <;> exact absurd rfl k
      | some z =>
        simp only
        exact ⟨hu, ⟨x, hi, rfl, rfl, hz⟩, fun h => by simpa using h⟩

section
variable {P : Program} {C : Ctx} {t : TypeId} {i : TI}
theorem Facts.run_underlying (F : Facts P t i) (w : World) : (underlying t).run P w = .ok i.desc w := Go.run_underlying F.under w
theorem Facts.run_typeInfo (F : Facts P t i) (w : World) : ∃ x, (typeInfo t).run P w = .ok x w ∧ x.size = i.size ∧ x.bytes = i.bytes ∧ x.zero = some i.zero := by
  obtain ⟨x, hx, h⟩ := F.info
  exact ⟨x, by simp [typeInfo, hx], h⟩
theorem Facts.run_sizeOf (F : Facts P t i) (w : World) : (sizeOf t).run P w = .ok i.size w := by
  obtain ⟨x, hx, h, _⟩ := F.info
  simp [sizeOf, typeInfo, hx, h]
theorem Facts.run_zeroValue (F : Facts P t i) (w : World) : (zeroValue t).run P w = .ok i.zero w := by
  obtain ⟨x, hx, _, _, h⟩ := F.info
  simp [zeroValue, typeInfo, hx, h]
theorem Facts.run_isAgg (F : Facts P t i) (w : World) : (isAgg t).run P w = .ok i.agg w := by
  simp only [isAgg, Sem.run_bind, F.run_underlying, Result.andThen_ok, TI.agg]
  cases i.desc <;> rfl
end

theorem VR_ofVal1 (g : List G) (M : Mem) (v : Value) : VR g M (ofVal1 v) v := by
  unfold ofVal1
  split <;> try constructor
  · rename_i k n
    cases h : (decide (k.min ≤ n) && decide (n ≤ k.max))
    · exact .undef _
    · exact .int k n (by simpa using h)
  · rename_i k b
    cases h : Nat.blt b (2 * signOf k)
    · exact .undef _
    · exact .float k _ _ (by rw [Nat.blt_eq] at h; exact h) rfl
  · rename_i s
    cases h : Nat.ble s.data.toList.length 9223372036854775807
    · exact .undef _
    · exact .str s _ rfl (Nat.le_of_ble_eq_true h)
  · rename_i h
    simp
    exact .nil
theorem VRs_ofVal1 (g : List G) (M : Mem) : ∀ (cs : List Value), VRs g M (cs.map ofVal1) cs
  | [] => .nil
  | c :: cs => .cons (VR_ofVal1 g M c) (VRs_ofVal1 g M cs)
theorem VR_ofVal (g : List G) (M : Mem) (v : Value) : VR g M (ofVal v) v := by
  unfold ofVal
  split
  · exact .agg _ _ (VRs_ofVal1 g M _)
  · exact VR_ofVal1 g M _

/-! ### memory -/
def putRow (w : World) (b : Nat) (c : Array Value) (T : TypeId) (fz : Nat × Nat) : World := { w with heap := w.heap.setIfInBounds b (.cells c T fz) }

theorem putRow_self {w : World} {b : Nat} {c : Array Value} {T : TypeId} {fz : Nat × Nat} (h : w.heap[b]? = some (.cells c T fz)) : putRow w b c T fz = w := by
  have hb : b < w.heap.size := by
    rcases Nat.lt_or_ge b w.heap.size with h' | h'
    · exact h'
    · simp [Array.getElem?_eq_none h'] at h
  have : w.heap.setIfInBounds b (.cells c T fz) = w.heap := by
    apply Array.ext_getElem?
    intro i
    by_cases hi : b = i
    · subst hi; rw [Array.getElem?_setIfInBounds, if_pos rfl, if_pos hb, h]
    · rw [Array.getElem?_setIfInBounds, if_neg hi]
  unfold putRow
  rw [this]
theorem putRow_get {w : World} {b : Nat} {c : Array Value} {T : TypeId} {fz : Nat × Nat} (hb : b < w.heap.size) : (putRow w b c T fz).heap[b]? = some (.cells c T fz) := by
  simp [putRow, Array.getElem?_setIfInBounds, hb]
theorem putRow_other {w : World} {b b' : Nat} {c : Array Value} {T : TypeId} {fz : Nat × Nat} (h : b ≠ b') : (putRow w b c T fz).heap[b']? = w.heap[b']? := by
  simp [putRow, Array.getElem?_setIfInBounds, h]
theorem putRow_size {w : World} {b : Nat} {c : Array Value} {T : TypeId} {fz : Nat × Nat} : (putRow w b c T fz).heap.size = w.heap.size := by simp [putRow]
theorem putRow_twice {w : World} {b : Nat} {c c' : Array Value} {T : TypeId} {fz : Nat × Nat} : putRow (putRow w b c T fz) b c' T fz = putRow w b c' T fz := by
  simp [putRow]

theorem lt_of_cells {w : World} {b : Nat} {o : Obj} (h : w.heap[b]? = some o) : b < w.heap.size := by
  rcases Nat.lt_or_ge b w.heap.size with h' | h'
  · exact h'
  · simp [Array.getElem?_eq_none h'] at h

theorem cell?_row {w : World} {b : Nat} {c : Array Value} {T : TypeId} {fz : Nat × Nat} (h : w.heap[b]? = some (.cells c T fz)) (i : Nat) : w.cell? ⟨b, i, none⟩ = c[i]? := by
  simp [World.cell?, h]
theorem frozen?_row {w : World} {b : Nat} {c : Array Value} {T : TypeId} {fz : Nat × Nat} (h : w.heap[b]? = some (.cells c T fz)) (hz : Clear c.size fz) {i : Nat} (hi : i < c.size) : w.frozen? ⟨b, i, none⟩ = false := by
  have := hz i hi
  simp [World.frozen?, h]
  intro h1
  exact Nat.le_of_not_lt fun h2 => this ⟨h1, h2⟩
theorem setCell_row {w : World} {b : Nat} {c : Array Value} {T : TypeId} {fz : Nat × Nat} (h : w.heap[b]? = some (.cells c T fz)) (i : Nat) (v : Value) : w.setCell ⟨b, i, none⟩ v = putRow w b (c.setIfInBounds i v) T fz := by
  have hb := lt_of_cells h
  have : w.heap.modify b (fun | .cells c elem frozen => .cells (c.setIfInBounds i v) elem frozen | o => o) = w.heap.setIfInBounds b (.cells (c.setIfInBounds i v) T fz) := by
    apply Array.ext_getElem?
    intro j
    by_cases hj : b = j
    · subst hj; rw [Array.getElem?_modify, Array.getElem?_setIfInBounds, if_pos rfl, if_pos rfl, if_pos hb, h]; rfl
    · rw [Array.getElem?_modify, Array.getElem?_setIfInBounds, if_neg hj, if_neg hj]
  unfold World.setCell putRow
  simp only [Option.isSome_none, Bool.false_eq_true, if_false]
  congr 1

theorem run_storeCells_clear (P : Program) (b o : Nat) (T : TypeId) (fz : Nat × Nat) : ∀ (ds : List Value) (i : Nat) (c : Array Value) (w : World), w.heap[b]? = some (.cells c T fz) →
    o + i + ds.length ≤ c.size → Clear c.size fz → (∀ v ∈ ds, v.oneCell' = true) →
    (storeCells ⟨b, o, none⟩ ds i).run P w = .ok () (putRow w b (setAtC c.toList (o + i) ds).toArray T fz)
  | [], i, c, w, h, _, _, _ => by simp [storeCells, setAtC, putRow_self h]
  | v :: ds, i, c, w, h, hl, hz, h1 => by
    simp at hl
    have hi : o + i < c.size := by omega
    have hc : w.cell? ⟨b, o + i, none⟩ = some c[o + i] := by rw [cell?_row h]; simp [hi]
    have hf := frozen?_row h hz hi
    have h1v := h1 v (by simp)
    have ih := run_storeCells_clear P b o T fz ds (i + 1) (c.setIfInBounds (o + i) v) (putRow w b (c.setIfInBounds (o + i) v) T fz) (putRow_get (lt_of_cells h)) (by simp; omega)
      (by simpa using hz) (fun u hu => h1 u (by simp [hu]))
    simp only [storeCells, Sem.run_bind, Addr.add_lit, run_store P w _ v _ h1v, hc, hf, Bool.false_eq_true, if_false, Result.andThen_ok, setCell_row h, ih, putRow_twice]
    congr 2
    simp [setAtC, Nat.add_assoc]

theorem run_loadCells_row (P : Program) {w : World} {b : Nat} {c : Array Value} {T : TypeId} {fz : Nat × Nat} (h : w.heap[b]? = some (.cells c T fz)) (o n : Nat) (hl : o + n ≤ c.size) :
    (loadCells ⟨b, o, none⟩ n).run P w = .ok ((c.toList.drop o).take n).toArray w := by
  have := run_loadCells_list (P := P) w ⟨b, o, none⟩ ((c.toList.drop o).take n) (by
    intro j v hj
    rw [Addr.add_lit, cell?_row h]
    rw [List.getElem?_take] at hj
    split at hj
    · rw [List.getElem?_drop] at hj
      simpa using hj
    · simp at hj)
  rwa [show ((c.toList.drop o).take n).length = n by simp; omega] at this

/-- A row's cells read as a value of a type. -/
theorem run_loadVar_cells {P : Program} {t : TypeId} {i : TI} (F : Facts P t i) {w : World} {b : Nat} {c : Array Value} {T : TypeId} {fz : Nat × Nat} (h : w.heap[b]? = some (.cells c T fz)) (o : Nat)
    {g : List G} {M : Mem} {vs : List V} (hv : VRs g M vs ((c.toList.drop o).take vs.length)) {K : V → Prop} (hk : readV i vs K) :
    ∃ v val, K v ∧ VR g M v val ∧ (loadVar t ⟨b, o, none⟩).run P w = .ok val w := by
  have hlen := hv.length
  simp at hlen
  unfold readV at hk
  cases ha : i.agg with
  | true =>
    simp only [ha, cond_true] at hk
    cases hs : Nat.ble i.size vs.length with
    | false => simp [hs] at hk
    | true =>
      simp only [hs, cond_true] at hk
      have hs' : i.size ≤ vs.length := Nat.le_of_ble_eq_true hs
      refine ⟨_, .agg ((c.toList.drop o).take i.size).toArray, hk, .agg _ _ ?_, ?_⟩
      · have := hv.take i.size
        rw [List.take_take, Nat.min_eq_left hs'] at this
        simpa using this
      · by_cases hz : i.size = 0
        · simp [loadVar, F.run_isAgg, ha, F.run_sizeOf, hz, loadCells, loadCellsFrom]
        · simp [loadVar, F.run_isAgg, ha, F.run_sizeOf, run_loadCells_row P h o i.size (by omega)]
  | false =>
    simp only [ha, cond_false] at hk
    cases hz : Nat.beq i.size 0 with
    | true => simp [hz] at hk
    | false =>
      simp only [hz, cond_false] at hk
      cases vs with
      | nil => simp at hk
      | cons v vs =>
        obtain ⟨x, hx, hr⟩ := hv.get (i := 0) (v := v) (by simp)
        rw [List.getElem?_take] at hx
        simp at hx
        refine ⟨v, x, hk, hr, ?_⟩
        simp [loadVar, F.run_isAgg, ha, cell?_row h, hx]

/-! ### owned things -/
theorem clear_zero (n : Nat) : Clear n (0, 0) := fun i _ h => by omega

theorem ownsRowF_heap {w w' : World} {e : TypeId} {size : Nat} {v : Value} {n : Nat} {xs : List Value} (h : w.ownsRowF 0 e size v n xs) (hb : ∀ k, v.ownBlock = some k → w'.heap[k]? = w.heap[k]?) : w'.ownsRowF 0 e size v n xs := by
  refine ⟨h.1, h.2.imp (fun e => e) ?_⟩
  rintro ⟨g, cap, cur, fz, rfl, k1, k2, k3⟩
  exact ⟨g, cap, cur, fz, rfl, k1, (hb g rfl).trans k2, k3⟩

theorem ObOk.mono {g g' : List G} {M : Mem} {w w' : World} {o : Ob} {x : G} (E : Ext g M g' M) (hb : ∀ b, ownB o x b → w'.heap[b]? = w.heap[b]?) (h : ObOk g M w o x) : ObOk g' M w' o x := by
  cases o <;> cases x <;> simp only [ObOk] at h ⊢ <;> try exact h
  · obtain ⟨c, T, fz, h1, h2, h3, h4⟩ := h
    exact ⟨c, T, fz, (hb _ rfl).trans h1, h2.mono E, h3, h4⟩
  · obtain ⟨h1, h2, h3, h4⟩ := h
    refine ⟨h1, h2, h3, h4.imp id ?_⟩
    rintro ⟨b, cap, c, T, fz, rfl, k2, k3, k4, k5, k6, k7⟩
    exact ⟨b, cap, c, T, fz, rfl, (hb b rfl).trans k2, k3, k4, fun i x hx => (k5 i x hx).mono E, k6, k7⟩
  · exact ⟨h.1, h.2.1, h.2.2.mono E⟩
  · obtain ⟨p, v, h1, h2, h3, rfl, h5, h6, h7⟩ := h
    refine ⟨p, v, (hb _ (.inl rfl)).trans h1, h2, ownsRowF_heap h3 (fun k hk => hb k (.inr hk)), rfl, h5, h6, h7⟩
  · exact dp_frame (g := g) (g' := g') (M := M) (M' := M) h fun b hm => ⟨hb b hm, h.2.2.2.1 b hm⟩

theorem own_lt {g : List G} {M : Mem} {w : World} {o : Ob} {x : G} (h : ObOk g M w o x) {b : Nat} (hb : ownB o x b) : b < w.heap.size ∧ M b = none := by
  cases o <;> cases x <;> simp only [ObOk] at h <;> simp only [ownB] at hb <;> try (cases hb; done)
  · cases hb
    obtain ⟨c, T, fz, h1, h2, h3, h4⟩ := h
    exact ⟨lt_of_cells h1, h4⟩
  · obtain ⟨h1, h2, h3, h4⟩ := h
    rcases h4 with ⟨rfl, rfl⟩ | ⟨b', cap, c, T, fz, rfl, k2, k3, k4, k5, k6, k7⟩
    · simp at hb
    · simp at hb; subst hb; exact ⟨lt_of_cells k2, k7⟩
  · obtain ⟨p, v, h1, h2, h3, rfl, h5, h6, h7⟩ := h
    rcases hb with rfl | hb
    · exact ⟨lt_of_cells h1, h6⟩
    · exact ⟨(h3.lt _ hb).2, h7.1 _ hb⟩
  · exact dp_lt (g := g) h hb

theorem HR.own_lt {H : Heap} {g : List G} {M : Mem} {w : World} (h : HR H g M w) {b : Nat} (hb : Own H g b) : b < w.heap.size ∧ M b = none := by
  obtain ⟨id, o, x, h1, h2, h3⟩ := hb
  exact Ev.own_lt (h.ob id o x h1 h2) h3

/-- The same memory but for draws. -/
theorem HR.same {H : Heap} {g : List G} {M : Mem} {w w' : World} (hw : w'.heap = w.heap) (h : HR H g M w) : HR H g M w' :=
  ⟨h.len, fun id o x h1 h2 => (h.ob id o x h1 h2).mono (Ext.refl g M) (fun b _ => by rw [hw]), h.apart, fun b cs hb => by rw [hw]; exact h.mem b cs hb⟩

theorem Base.same {w0 : World} {M0 : Mem} {own0 : Z} {H : Heap} {g : List G} {M : Mem} {w w' : World} (hw : w'.heap = w.heap) (ho : w'.os = w.os) (ht : w'.tape = w.tape) (hp : w'.output = w.output)
    (h : Base w0 M0 own0 H g M w) : Base w0 M0 own0 H g M w' :=
  ⟨by rw [hw]; exact h.size, fun b h1 h2 => by rw [hw]; exact h.keep b h1 h2, h.own, h.mle, h.mnew, ho.trans h.os, ht.trans h.tape, hp.trans h.output, h.gbox⟩

theorem getElem?_snoc {α : Type} (l : List α) (a : α) (i : Nat) : (l ++ [a])[i]? = if i < l.length then l[i]? else if i = l.length then some a else none := by
  by_cases h : i < l.length
  · simp [h, List.getElem?_append_left h]
  · rw [List.getElem?_append_right (by omega)]
    by_cases h' : i = l.length
    · simp [h, h']
    · have : i - l.length ≠ 0 := by omega
      cases hk : i - l.length with
      | zero => omega
      | succ k => simp [h, h']

theorem Ext.snoc (g : List G) (M : Mem) (x : G) : Ext g M (g ++ [x]) M :=
  ⟨fun id y h => ⟨y, by rw [List.getElem?_append_left (by
      rcases Nat.lt_or_ge id g.length with h' | h'
      · exact h'
      · simp [List.getElem?_eq_none h'] at h)]; exact h, Gle.refl y⟩, fun _ _ h => h⟩

/-- A new row is made for a new owned thing. -/
theorem HR.push {H : Heap} {g : List G} {M : Mem} {w : World} (h : HR H g M w) {o : Ob} {x : G} {c : Array Value} {T : TypeId} {fz : Nat × Nat}
    (hob : ObOk (g ++ [x]) M (w.alloc (.cells c T fz)) o x) (hown : ∀ b, ownB o x b → b = w.heap.size) : HR (H ++ [o]) (g ++ [x]) M (w.alloc (.cells c T fz)) := by
  have hlen := h.len
  have hnew : ∀ b, b < w.heap.size → (w.alloc (.cells c T fz)).heap[b]? = w.heap[b]? := by
    intro b hb
    show (w.heap.push _)[b]? = _
    rw [Array.getElem?_push, if_neg (Nat.ne_of_lt hb)]
  refine ⟨by simp [hlen], ?_, ?_, ?_⟩
  · intro id o' x' h1 h2
    rw [getElem?_snoc] at h1 h2
    rw [← hlen] at h2
    split at h1
    · rename_i hid
      rw [if_pos hid] at h2
      exact (h.ob id o' x' h1 h2).mono (Ext.snoc g M x) fun b hb => hnew b (Ev.own_lt (h.ob id o' x' h1 h2) hb).1
    · rename_i hid
      rw [if_neg hid] at h2
      split at h1
      · rename_i he
        rw [if_pos he] at h2
        cases h1; cases h2
        exact hob
      · cases h1
  · intro id id' o1 o2 x1 x2 b a1 a2 b1 b2 c1 c2
    rw [getElem?_snoc] at a1 a2 b1 b2
    rw [← hlen] at a2 b2
    by_cases p : id < H.length <;> by_cases q : id' < H.length
    · rw [if_pos p] at a1 a2; rw [if_pos q] at b1 b2
      exact h.apart id id' o1 o2 x1 x2 b a1 a2 b1 b2 c1 c2
    · rw [if_pos p] at a1 a2; rw [if_neg q] at b1 b2
      split at b1
      · rename_i he; rw [if_pos he] at b2; cases b1; cases b2
        have := (Ev.own_lt (h.ob id o1 x1 a1 a2) c1).1
        have := hown b c2
        omega
      · cases b1
    · rw [if_neg p] at a1 a2; rw [if_pos q] at b1 b2
      split at a1
      · rename_i he; rw [if_pos he] at a2; cases a1; cases a2
        have := (Ev.own_lt (h.ob id' o2 x2 b1 b2) c2).1
        have := hown b c1
        omega
      · cases a1
    · rw [if_neg p] at a1; rw [if_neg q] at b1
      split at a1
      · split at b1
        · omega
        · cases b1
      · cases a1
  · intro b cs hb
    obtain ⟨c', T', fz', h1, h2⟩ := h.mem b cs hb
    exact ⟨c', T', fz', (hnew b (lt_of_cells h1)).trans h1, h2⟩

theorem own_snoc {H : Heap} {g : List G} (hlen : H.length = g.length) {o : Ob} {x : G} {b : Nat} (h : Own (H ++ [o]) (g ++ [x]) b) : Own H g b ∨ ownB o x b := by
  obtain ⟨id, o', x', h1, h2, h3⟩ := h
  rw [getElem?_snoc] at h1 h2
  rw [← hlen] at h2
  split at h1
  · rename_i hid; rw [if_pos hid] at h2; exact .inl ⟨id, o', x', h1, h2, h3⟩
  · rename_i hid; rw [if_neg hid] at h2
    split at h1
    · rename_i he; rw [if_pos he] at h2; cases h1; cases h2; exact .inr h3
    · cases h1

theorem Base.push {w0 : World} {M0 : Mem} {own0 : Z} {H : Heap} {g : List G} {M : Mem} {w : World} (h : Base w0 M0 own0 H g M w) (hlen : H.length = g.length) {o : Ob} {x : G} {c : Array Value} {T : TypeId} {fz : Nat × Nat}
    (hown : ∀ b, ownB o x b → b = w.heap.size) : Base w0 M0 own0 (H ++ [o]) (g ++ [x]) M (w.alloc (.cells c T fz)) := by
  have hs := h.size
  refine ⟨by simp; omega, ?_, ?_, h.mle, h.mnew, h.os, h.tape, h.output, fun id b hb => by
    have := h.gbox id b hb
    rw [List.getElem?_append_left (by
      rcases Nat.lt_or_ge id g.length with h' | h'
      · exact h'
      · simp [List.getElem?_eq_none h'] at this)]
    exact this⟩
  · intro b hb hn
    rw [show (w.alloc (.cells c T fz)).heap[b]? = w.heap[b]? by show (w.heap.push _)[b]? = _; rw [Array.getElem?_push, if_neg (by omega)]]
    exact h.keep b hb hn
  · intro b hb
    rcases own_snoc hlen hb with h1 | h1
    · exact h.own b h1
    · right; have := hown b h1; omega

/-- An owned row is written. -/
theorem HR.write {H : Heap} {g : List G} {M : Mem} {w : World} (h : HR H g M w) {id : Nat} {o o' : Ob} {x : G} {b : Nat} {c : Array Value} {T : TypeId} {fz : Nat × Nat}
    (ho : H[id]? = some o) (hx : g[id]? = some x) (hb : ownB o x b) (hb' : ∀ b', ownB o' x b' → ownB o x b') (hob : ObOk g M (putRow w b c T fz) o' x) : HR (H.set id o') g M (putRow w b c T fz) := by
  have hid : id < H.length := by
    rcases Nat.lt_or_ge id H.length with h' | h'
    · exact h'
    · simp [List.getElem?_eq_none h'] at ho
  have key : ∀ (j : Nat) (y : Ob) (z : G), (H.set id o')[j]? = some y → g[j]? = some z → (j = id ∧ y = o' ∧ z = x) ∨ (j ≠ id ∧ H[j]? = some y) := by
    intro j y z h1 h2
    by_cases e : id = j
    · subst e
      simp [List.getElem?_set, hid] at h1
      rw [hx] at h2; cases h2
      exact .inl ⟨rfl, h1.symm, rfl⟩
    · simp [List.getElem?_set, e] at h1
      exact .inr ⟨fun e' => e e'.symm, h1⟩
  refine ⟨by simp [h.len], ?_, ?_, ?_⟩
  · intro j y z h1 h2
    rcases key j y z h1 h2 with ⟨rfl, rfl, rfl⟩ | ⟨hne, h3⟩
    · exact hob
    · refine (h.ob j y z h3 h2).mono (Ext.refl g M) fun b'' hb'' => putRow_other fun e => ?_
      subst e
      exact hne (h.apart j id y o z x b h3 h2 ho hx hb'' hb)
  · intro j j' y y' z z' bb a1 a2 b1 b2 c1 c2
    rcases key j y z a1 a2 with ⟨rfl, rfl, rfl⟩ | ⟨hne, a3⟩ <;> rcases key j' y' z' b1 b2 with ⟨rfl, rfl, rfl⟩ | ⟨hne', b3⟩
    · rfl
    · exact h.apart _ _ _ _ _ _ bb ho hx b3 b2 (hb' _ c1) c2
    · exact h.apart _ _ _ _ _ _ bb a3 a2 ho hx c1 (hb' _ c2)
    · exact h.apart _ _ _ _ _ _ bb a3 a2 b3 b2 c1 c2
  · intro b'' cs hm
    obtain ⟨c', T', fz', h1, h2⟩ := h.mem b'' cs hm
    refine ⟨c', T', fz', (putRow_other fun e => ?_).trans h1, h2⟩
    subst e
    rw [(Ev.own_lt (h.ob id o x ho hx) hb).2] at hm
    cases hm

theorem own_set {H : Heap} {g : List G} {id : Nat} {o o' : Ob} {x : G} {b b' : Nat} (ho : H[id]? = some o) (hx : g[id]? = some x) (hb : ownB o x b) (hb' : ∀ b', ownB o' x b' → ownB o x b')
    (h : Own (H.set id o') g b') : Own H g b' := by
  obtain ⟨j, y, z, h1, h2, h3⟩ := h
  by_cases e : id = j
  · subst e
    rw [List.getElem?_set] at h1
    simp only [↓reduceIte] at h1
    split at h1
    · cases h1
      rw [hx] at h2; cases h2
      exact ⟨id, o, x, ho, hx, hb' _ h3⟩
    · cases h1
  · simp [List.getElem?_set, e] at h1
    exact ⟨j, y, z, h1, h2, h3⟩

theorem Base.write {w0 : World} {M0 : Mem} {own0 : Z} {H : Heap} {g : List G} {M : Mem} {w : World} (h : Base w0 M0 own0 H g M w) {id : Nat} {o o' : Ob} {x : G} {b : Nat} {c : Array Value} {T : TypeId} {fz : Nat × Nat}
    (ho : H[id]? = some o) (hx : g[id]? = some x) (hb : ownB o x b) (hb' : ∀ b', ownB o' x b' → ownB o x b') : Base w0 M0 own0 (H.set id o') g M (putRow w b c T fz) := by
  refine ⟨by rw [putRow_size]; exact h.size, ?_, ?_, h.mle, h.mnew, h.os, h.tape, h.output, h.gbox⟩
  · intro b'' h1 h2
    rw [putRow_other]
    · exact h.keep b'' h1 h2
    · intro e
      subst e
      rcases h.own b ⟨id, o, x, ho, hx, hb⟩ with k | k
      · exact h2 k
      · omega
  · intro b'' h1
    exact h.own b'' (own_set ho hx hb hb' h1)


/-- Some things are put together anew, all else is as it was. -/
theorem regroup {H H' : Heap} {g g' : List G} {M : Mem} {w w' : World} {w0 : World} {M0 : Mem} {own0 : Z} (hr : HR H g M w) (hb : Base w0 M0 own0 H g M w) (S : Nat → Prop) (E : Ext g M g' M) (hgx : ∀ (id : Nat) (x : G), own0.gx id x → g'[id]? = some x)
    (hkeep : ∀ b, b < w.heap.size → ¬ (∃ (id : Nat) (o : Ob) (x : G), S id ∧ H[id]? = some o ∧ g[id]? = some x ∧ ownB o x b) → w'.heap[b]? = w.heap[b]?)
    (hsz : w.heap.size ≤ w'.heap.size) (hos : w'.os = w.os) (htp : w'.tape = w.tape) (hout : w'.output = w.output) (hlen : H'.length = g'.length)
    (keys : ∀ (id : Nat) (o : Ob) (x : G), H'[id]? = some o → g'[id]? = some x → (¬ S id ∧ H[id]? = some o ∧ g[id]? = some x) ∨
      (ObOk g' M w' o x ∧ (∀ b, ownB o x b → (∃ (id : Nat) (o : Ob) (x : G), S id ∧ H[id]? = some o ∧ g[id]? = some x ∧ ownB o x b) ∨ w.heap.size ≤ b) ∧
        ∀ (id' : Nat) (o' : Ob) (x' : G) (b : Nat), H'[id']? = some o' → g'[id']? = some x' → ownB o x b → ownB o' x' b → id = id' ∨ (¬ S id' ∧ H[id']? = some o' ∧ g[id']? = some x'))) :
    HR H' g' M w' ∧ Base w0 M0 own0 H' g' M w' := by
  have hs := hb.size
  have hold : ∀ (id : Nat) (o : Ob) (x : G) (b : Nat), ¬ S id → H[id]? = some o → g[id]? = some x → ownB o x b → b < w.heap.size ∧ w'.heap[b]? = w.heap[b]? ∧
      ¬ (∃ (id : Nat) (o : Ob) (x : G), S id ∧ H[id]? = some o ∧ g[id]? = some x ∧ ownB o x b) := by
    intro id o x b hL p1 p2 p3
    have hlt := Ev.own_lt (hr.ob id o x p1 p2) p3
    have hno : ¬ (∃ (id : Nat) (o : Ob) (x : G), S id ∧ H[id]? = some o ∧ g[id]? = some x ∧ ownB o x b) := by
      rintro ⟨id', o', x', q0, q1, q2, q3⟩
      have := hr.apart id id' o o' x x' b p1 p2 q1 q2 p3 q3
      subst this
      exact hL q0
    exact ⟨hlt.1, hkeep b hlt.1 hno, hno⟩
  refine ⟨⟨hlen, ?_, ?_, ?_⟩, ⟨by omega, ?_, ?_, hb.mle, hb.mnew, hos.trans hb.os, htp.trans hb.tape, hout.trans hb.output, hgx⟩⟩
  · intro id o x h1 h2
    rcases keys id o x h1 h2 with ⟨hL, q1, q2⟩ | ⟨q1, _, _⟩
    · exact (hr.ob id o x q1 q2).mono E fun b hb => (hold id o x b hL q1 q2 hb).2.1
    · exact q1
  · intro id id' o o' x x' b h1 h2 h3 h4 h5 h6
    rcases keys id o x h1 h2 with ⟨hL, q1, q2⟩ | ⟨_, q2, q3⟩
    · rcases keys id' o' x' h3 h4 with ⟨hL', q1', q2'⟩ | ⟨_, q2', q3'⟩
      · exact hr.apart id id' o o' x x' b q1 q2 q1' q2' h5 h6
      · have := hold id o x b hL q1 q2 h5
        rcases q2' b h6 with k | k
        · exact absurd k this.2.2
        · omega
    · rcases q3 id' o' x' b h3 h4 h5 h6 with k | ⟨hL', q1', q2'⟩
      · exact k
      · have := hold id' o' x' b hL' q1' q2' h6
        rcases q2 b h5 with k | k
        · exact absurd k this.2.2
        · omega
  · intro b cs hm
    obtain ⟨c, T, fz, h1, h2⟩ := hr.mem b cs hm
    have hlt := lt_of_cells h1
    refine ⟨c, T, fz, (hkeep b hlt ?_).trans h1, h2⟩
    rintro ⟨id, o, x, _, q1, q2, q3⟩
    rw [(Ev.own_lt (hr.ob id o x q1 q2) q3).2] at hm
    cases hm
  · intro b h1 h2
    have hno : ¬ (∃ (id : Nat) (o : Ob) (x : G), S id ∧ H[id]? = some o ∧ g[id]? = some x ∧ ownB o x b) := by
      rintro ⟨id, o, x, _, q1, q2, q3⟩
      rcases hb.own b ⟨id, o, x, q1, q2, q3⟩ with k | k
      · exact h2 k
      · omega
    exact (hkeep b (by omega) hno).trans (hb.keep b h1 h2)
  · rintro b ⟨id, o, x, h1, h2, h3⟩
    rcases keys id o x h1 h2 with ⟨_, q1, q2⟩ | ⟨_, q2, _⟩
    · exact hb.own b ⟨id, o, x, q1, q2, h3⟩
    · rcases q2 b h3 with ⟨id, o, x, _, q1, q2, q3⟩ | k
      · exact hb.own b ⟨id, o, x, q1, q2, q3⟩
      · exact .inr (by omega)

theorem set_get' {α : Type} {l : List α} {i j : Nat} {a x : α} (h : (l.set i a)[j]? = some x) : (j = i ∧ x = a) ∨ (j ≠ i ∧ l[j]? = some x) := by
  by_cases e : i = j
  · subst e
    have hl : i < l.length := by
      rcases Nat.lt_or_ge i l.length with k | k
      · exact k
      · rw [List.getElem?_eq_none (by simpa using k)] at h; cases h
    rw [List.getElem?_set_self hl] at h
    cases h
    exact .inl ⟨rfl, rfl⟩
  · rw [List.getElem?_set_ne e] at h
    exact .inr ⟨fun e' => e e'.symm, h⟩

/-- A thing takes over what others own. -/
theorem adopt_set {H : Heap} {g : List G} {M : Mem} {w w' : World} {w0 : World} {M0 : Mem} {own0 : Z} (hr : HR H g M w) (hb : Base w0 M0 own0 H g M w) {id : Nat} {o o' : Ob} {x x' : G} {L : List Nat} (ho : H[id]? = some o) (hx : g[id]? = some x) (hle : Gle x x')
    (hfx : x.fixed = true → own0.n ≤ id ∨ x' = x) (hsz : w.heap.size ≤ w'.heap.size) (hos : w'.os = w.os) (htp : w'.tape = w.tape) (hout : w'.output = w.output)
    (hkeep : ∀ b, b < w.heap.size → ¬ ownB o x b → ¬ OwnIn H g L b → w'.heap[b]? = w.heap[b]?) (hob : ObOk (g.set id x') M w' o' x')
    (hown : ∀ b, ownB o' x' b → ownB o x b ∨ OwnIn H g L b ∨ w.heap.size ≤ b) :
    HR ((kill H L).set id o') (g.set id x') M w' ∧ Base w0 M0 own0 ((kill H L).set id o') (g.set id x') M w' ∧ Ext g M (g.set id x') M := by
  have E : Ext g M (g.set id x') M := ⟨fun j y hj => by
    by_cases e : id = j
    · subst e
      rw [hx] at hj; cases hj
      exact ⟨x', by rw [List.getElem?_set_self (List.getElem?_eq_some_iff.1 hx).1], hle⟩
    · exact ⟨y, by rw [List.getElem?_set_ne e]; exact hj, Gle.refl y⟩, fun _ _ h => h⟩
  have hSo : ∀ b, (ownB o x b ∨ OwnIn H g L b) → ∃ (j : Nat) (o : Ob) (x : G), (j = id ∨ j ∈ L) ∧ H[j]? = some o ∧ g[j]? = some x ∧ ownB o x b := by
    rintro b (h | ⟨j, hj, o1, y1, p1, p2, p3⟩)
    · exact ⟨id, o, x, .inl rfl, ho, hx, h⟩
    · exact ⟨j, o1, y1, .inr hj, p1, p2, p3⟩
  obtain ⟨r1, r2⟩ := regroup (H' := (kill H L).set id o') (g' := g.set id x') (w' := w') hr hb (fun j => j = id ∨ j ∈ L) E (fun j y hj => by
      have := hb.gbox j y hj
      by_cases e : id = j
      · subst e
        rw [hx] at this; cases this
        rw [List.getElem?_set_self (List.getElem?_eq_some_iff.1 hx).1]
        rcases hfx (own0.fx _ _ hj) with k | k
        · have := own0.lt _ _ hj; omega
        · rw [k]
      · rw [List.getElem?_set_ne e]; exact this)
    (fun b hb1 hn => hkeep b hb1 (fun h => hn (hSo b (.inl h))) (fun h => hn (hSo b (.inr h)))) hsz hos htp hout (by simp [kill_len, hr.len]) (by
      intro j y z h1 h2
      rcases set_get' h1 with ⟨rfl, rfl⟩ | ⟨hne, h1'⟩
      · rcases set_get' h2 with ⟨_, rfl⟩ | ⟨hne, _⟩
        · refine .inr ⟨hob, fun b hb' => ?_, fun j' y' z' b p1 p2 p3 p4 => ?_⟩
          · rcases hown b hb' with k | k | k
            · exact .inl (hSo b (.inl k))
            · exact .inl (hSo b (.inr k))
            · exact .inr k
          · rcases set_get' p1 with ⟨rfl, rfl⟩ | ⟨hne', p1'⟩
            · exact .inl rfl
            · rcases kill_get p1' with ⟨_, rfl⟩ | ⟨hn, p1''⟩
              · exact p4.elim
              · rcases set_get' p2 with ⟨e, _⟩ | ⟨_, p2'⟩
                · exact absurd e hne'
                · exact .inr ⟨fun h => h.elim hne' hn, p1'', p2'⟩
        · exact absurd rfl hne
      · rcases set_get' h2 with ⟨e, _⟩ | ⟨_, h2'⟩
        · exact absurd e hne
        · rcases kill_get h1' with ⟨hm, rfl⟩ | ⟨hn, h1''⟩
          · refine .inr ⟨by cases z <;> exact trivial, fun b hb' => hb'.elim, fun _ _ _ b _ _ p3 _ => p3.elim⟩
          · exact .inl ⟨fun h => h.elim hne hn, h1'', h2'⟩)
  exact ⟨r1, r2, E⟩

/-- A new thing takes over what others own. -/
theorem adopt_push {H : Heap} {g : List G} {M : Mem} {w w' : World} {w0 : World} {M0 : Mem} {own0 : Z} (hr : HR H g M w) (hb : Base w0 M0 own0 H g M w) {o' : Ob} {x' : G} {L : List Nat}
    (hsz : w.heap.size ≤ w'.heap.size) (hos : w'.os = w.os) (htp : w'.tape = w.tape) (hout : w'.output = w.output)
    (hkeep : ∀ b, b < w.heap.size → ¬ OwnIn H g L b → w'.heap[b]? = w.heap[b]?) (hob : ObOk (g ++ [x']) M w' o' x')
    (hown : ∀ b, ownB o' x' b → OwnIn H g L b ∨ w.heap.size ≤ b) :
    HR (kill H L ++ [o']) (g ++ [x']) M w' ∧ Base w0 M0 own0 (kill H L ++ [o']) (g ++ [x']) M w' ∧ Ext g M (g ++ [x']) M := by
  have hSo : ∀ b, OwnIn H g L b → ∃ (j : Nat) (o : Ob) (x : G), j ∈ L ∧ H[j]? = some o ∧ g[j]? = some x ∧ ownB o x b := by
    rintro b ⟨j, hj, o1, y1, p1, p2, p3⟩
    exact ⟨j, o1, y1, hj, p1, p2, p3⟩
  have hlen := hr.len
  have hcase : ∀ {j : Nat} {o : Ob} {x : G}, (kill H L ++ [o'])[j]? = some o → (g ++ [x'])[j]? = some x → (j < H.length ∧ ((j ∈ L ∧ o = .dead) ∨ (j ∉ L ∧ H[j]? = some o ∧ g[j]? = some x))) ∨ (j = H.length ∧ o = o' ∧ x = x') := by
    intro j o x h1 h2
    rw [getElem?_snoc] at h1 h2
    rw [kill_len] at h1
    rw [← hlen] at h2
    split at h1
    · rename_i hl
      rw [if_pos hl] at h2
      refine .inl ⟨hl, ?_⟩
      rcases kill_get h1 with k | ⟨k1, k2⟩
      · exact .inl k
      · exact .inr ⟨k1, k2, h2⟩
    · rename_i hl
      rw [if_neg hl] at h2
      split at h1
      · rename_i he; rw [if_pos he] at h2; cases h1; cases h2; exact .inr ⟨he, rfl, rfl⟩
      · cases h1
  obtain ⟨r1, r2⟩ := regroup (H' := kill H L ++ [o']) (g' := g ++ [x']) (w' := w') hr hb (fun j => j ∈ L) (Ext.snoc g M x') (fun j y hj => by
      have := hb.gbox j y hj
      rw [List.getElem?_append_left (List.getElem?_eq_some_iff.1 this).1]; exact this)
    (fun b hb1 hn => hkeep b hb1 (fun h => hn (hSo b h))) hsz hos htp hout (by simp [kill_len, hlen]) (by
      intro j y z h1 h2
      rcases hcase h1 h2 with ⟨hl, ⟨hm, rfl⟩ | ⟨hn, k1, k2⟩⟩ | ⟨he, rfl, rfl⟩
      · exact .inr ⟨by cases z <;> exact trivial, fun b hb' => hb'.elim, fun _ _ _ b _ _ p3 _ => p3.elim⟩
      · exact .inl ⟨hn, k1, k2⟩
      · refine .inr ⟨hob, fun b hb' => (hown b hb').imp (hSo b) id, fun j' y' z' b p1 p2 p3 p4 => ?_⟩
        rcases hcase p1 p2 with ⟨hl, ⟨hm, rfl⟩ | ⟨hn, k1, k2⟩⟩ | ⟨he', _, _⟩
        · exact p4.elim
        · exact .inr ⟨hn, k1, k2⟩
        · exact .inl (by omega))
  exact ⟨r1, r2, Ext.snoc g M x'⟩
end Go.Ev
