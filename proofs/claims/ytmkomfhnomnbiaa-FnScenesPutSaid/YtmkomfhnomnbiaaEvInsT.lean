/- slices.Insert of one element in a list of things: the row after the call. -/
import Derived.Test.YtmkomfhnomnbiaaPre
import Derived.Test.YtmkomfhnomnbiaaEvIns
import Derived.Shelf.RegionOpenPlain
import Derived.WalkKit
import Derived.Lib.Walk
import Derived.Lib.SliceRun
import Derived.Lib.JoinLaws
import Derived.Lib.AppendZeros
import Derived.Lib.Overlaps
import Derived.Laws.Externs
import Derived.Laws.IdiomCopy
import Derived.Lib.AppendZerosOnto
import Derived.Laws.NewBlocks
set_option linter.unusedVariables false
set_option linter.unusedSimpArgs false
namespace Go.Proofs.Ytmkomfhnomnbiaa
open Go.Ev Go.Shelf Go.RowKit Go.Lib

section
variable {P : Program}
theorem wp_copy_runI (w : World) {o : Oper} {a : Act} {K : Act → World → Prop} {Q : Exit → Act → World → Prop} (d s : Operand) (t t' : TypeId)
    (ho : o.op = .call { callee := .builtin .copy, args := #[d, s], argTypes := #[t, t'] }) (v u : Value) (hd : a.eval d = v) (hs : a.eval s = u) {v' : Value} {w' : World}
    (hr : (Builtin.copy_ #[t, t'] o.type #[v, u]).run P w = .ok v' w') (h : K (a.put o.dst v') w') : o.wp P a w K Q := by
  unfold Oper.wp execOp
  simp only [ho, resolve, invoke, builtin, Sem.run_bind, Sem.run_pure, Result.andThen_ok, List.map_toArray, List.map_cons, List.map_nil, hd, hs, hr]
  exact h
theorem wpList_copy_runI (w : World) {ops : Array Oper} {rest : List Oper} {o : Oper} {a : Act} {Q : Exit → Act → World → Prop} (hgd : o.guard = none) (d s : Operand) (t t' : TypeId)
    (ho : o.op = .call { callee := .builtin .copy, args := #[d, s], argTypes := #[t, t'] }) (v u : Value) (hd : a.eval d = v) (hs : a.eval s = u) {v' : Value} {w' : World}
    (hr : (Builtin.copy_ #[t, t'] o.type #[v, u]).run P w = .ok v' w') (h : wpList P ops Q rest (a.put o.dst v') w') : wpList P ops Q (o :: rest) a w :=
  wpList_plain hgd fun _ hK => wp_copy_runI w d s t t' ho v u hd hs hr (hK _ _ h)
theorem step_copy_runI {ops : Array Oper} {o : Oper} {a : Act} {w : World} {K : Act → World → Prop} {Q : Exit → Act → World → Prop} {E : Prop}
    (hg : o.guard = none) (d x : Operand) (dT sT : TypeId) (hop : o.op = Op.call { callee := Callee.builtin Builtin.copy, args := #[d, x], argTypes := #[dT, sT] })
    (v u : Value) (hd : a.eval d = v) (hx : a.eval x = u) {v' : Value} {w' : World} (hr : (Builtin.copy_ #[dT, sT] o.type #[v, u]).run P w = .ok v' w') (hK : K (a.put o.dst v') w') :
    if Region.wanted o (yielded ops a.tmps) = true then Oper.wp P o a w K Q else E := by
  have hw : Region.wanted o (yielded ops a.tmps) = true := by simp [Region.wanted, hg]
  rw [if_pos hw]
  unfold Oper.wp
  simp [execOp, hop, resolve, invoke, builtin, hd, hx, hr, Result.andThen]
  exact hK

/-- copy into a row that nobody has frozen. -/
theorem run_copy_row {w : World} {t ty e : TypeId} (ht : P.underlying t = some (.slice e)) {sz : Nat} (hi : (P.info? e).map (·.size) = some sz)
    {b : Nat} {c : Array Value} {T : TypeId} {fz : Nat × Nat} (hg : w.heap[b]? = some (.cells c T fz)) (hz : Clear c.size fz) {o dl dc : Nat}
    {a : Addr} {sl sc : Nat} {news : List Value} (hl : news.length = Nat.min sl dl * sz) (hnews : ∀ j u, news[j]? = some u → w.cell? (a.add j) = some u) (h1 : ∀ u ∈ news, u.oneCell' = true)
    (hfit : o + news.length ≤ c.size) :
    (Builtin.copy_ #[t, t] ty #[.slice (some ⟨b, o, none⟩) dl dc, .slice (some a) sl sc]).run P w =
      .ok (goInt (Nat.min sl dl)) (putRow w b (setAtC c.toList o news).toArray T fz) := by
  cases hq : P.info? e with
  | none => simp [hq] at hi
  | some i =>
    have hi : i.size = sz := by simpa [hq] using hi
    subst hi
    have hf := run_firstCells_some (P := P) w i.size (Nat.min sl dl) a sl sc news hl hnews
    have hst := run_storeCells_clear P b o T fz news 0 c w hg (by simpa using hfit) hz h1
    simp only [Nat.add_zero] at hst
    simp [Builtin.copy_, run_underlying ht, sizeOf, typeInfo, hq, Builtin.lenOf, hf, hst]
end

noncomputable abbrev PP : Program := Try.prog
theorem u33 : PP.underlying 24 = some (.slice 33) := by kernel_rfl
theorem u3 : PP.underlying 3 = some (.int .i64) := by kernel_rfl
theorem u4 : PP.underlying 4 = some .bool := by kernel_rfl
theorem i44 : (PP.info? 33).map (fun i => (i.size, i.bytes)) = some (3, 64) := by kernel_rfl
theorem s44 : (PP.info? 33).map (·.size) = some 3 := by kernel_rfl
theorem z44 : ∃ i z, PP.info? 33 = some i ∧ i.size = 3 ∧ i.bytes = 64 ∧ i.zero = some z ∧ z.cells.size = 3 := by
  have h : (PP.info? 33).map (fun i => (i.size, i.bytes, (i.zero.map fun z => z.cells.size))) = some (3, 64, some 3) := by kernel_rfl
  cases hq : PP.info? 33 with
  | none => rw [hq] at h; cases h
  | some i =>
    rw [hq] at h
    simp only [Option.map_some, Option.some.injEq, Prod.mk.injEq] at h
    obtain ⟨h1, h2, h3⟩ := h
    cases hz : i.zero with
    | none => rw [hz] at h3; cases h3
    | some z =>
      rw [hz] at h3
      simp only [Option.map_some, Option.some.injEq] at h3
      exact ⟨i, z, rfl, h1, h2, hz, h3⟩
theorem size44 (w : World) : (Go.sizeOf 33).run PP w = .ok 3 w := by
  obtain ⟨i, z, h1, h2, _⟩ := z44
  simp [Go.sizeOf, typeInfo, h1, h2]
theorem ntIns : Try.f34.ntmps = 95 := by kernel_rfl

theorem nmin_l {a b : Nat} (h : a ≤ b) : Nat.min a b = a := Nat.min_eq_left h
theorem nmin_r {a b : Nat} (h : b ≤ a) : Nat.min a b = b := Nat.min_eq_right h
abbrev tX : Ty := .pair .str .unit
set_option maxHeartbeats 4000000 in
set_option maxRecDepth 100000 in
theorem ins_shift (b n c i vb vc : Nat) (w : World) (cs vs : Array Value) (T T' : TypeId) (fz fz' : Nat × Nat) (hb : w.heap[b]? = some (.cells cs T fz)) (hv : w.heap[vb]? = some (.cells vs T' fz')) (hne : vb ≠ b)
    (hz : Clear cs.size fz) (hz' : ClearT tX vs.size fz') (hi : i < n) (hroom : n + 1 ≤ c) (hc : c * 3 ≤ cs.size) (hn63 : n ≤ 4611686018427387904) (olds news : List Value) (ho : olds = cs.toList.take (n * 3)) (hn : news = vs.toList.take 3) (hv3 : 3 ≤ vs.size)
    (h1c : ∀ v ∈ olds, v.oneCell' = true) (h1v : ∀ v ∈ news, v.oneCell' = true) :
    Calls PP 34 #[.slice (some ⟨b, 0, none⟩) n c, .int .i64 i, .slice (some ⟨vb, 0, none⟩) 1 vc] w fun e w' =>
      e = .returned (.slice (some ⟨b, 0, none⟩) (n + 1) c) ∧ w' = putRow w.drew b (setAtC (setAtC cs.toList ((i + 1) * 3) (olds.drop (i * 3))) (i * 3) news).toArray T fz := by
  have hol : olds.length = n * 3 := by rw [ho, List.length_take, Array.length_toList]; omega
  have hnl : news.length = 3 := by rw [hn, List.length_take, Array.length_toList]; omega
  have hog : ∀ j v, olds[j]? = some v → cs[j]? = some v := fun j v h => by
    rw [ho, List.getElem?_take] at h
    split at h
    · simpa using h
    · cases h
  have hng : ∀ j v, news[j]? = some v → vs[j]? = some v := fun j v h => by
    rw [hn, List.getElem?_take] at h
    split at h
    · simpa using h
    · cases h
  have u33 := u33; have u3 := u3; have u4 := u4
  have z44' := size44
  have hz2 : ¬ ((i : Int) = (n : Int)) := by omega
  have hshv : w.shape? vb = some (T', vs.size) := by simp [World.shape?, hv]
  have hshb : w.shape? b = some (T, cs.size) := by simp [World.shape?, hb]
  have hfa : w.frozen? ⟨vb, 0, none⟩ = false := frozen?_row hv hz'.1 (by omega)
  have hfe : w.frozen? ⟨vb, vs.size, none⟩ = false := by
    rcases hz'.2 with h | h
    · cases h
    · simp only [World.frozen?, hv]
      simpa [Decidable.not_and_iff_or_not] using h
  have hov : ∀ lb cb, (callFunc 54 #[.slice (some ⟨vb, 0, none⟩) 1 vc, .slice (some ⟨b, (i + 1) * 3, none⟩) lb cb]).run PP w = .ok (.value (.bool false)) w := fun lb cb => by
    rw [run_callFunc_extern Try.func54 (by kernel_rfl) (by kernel_rfl) (by kernel_rfl) (e := Extern.SlicesOverlaps.overlaps #[24, 24] #[4]) (by kernel_rfl),
      Lib.run_overlaps_apart w 24 4 33 u33 3 size44 ⟨vb, 0, none⟩ ⟨b, (i + 1) * 3, none⟩ 1 vc lb cb hne T' T vs.size cs.size hshv hshb (by omega) hfa hfe]
    rfl
  have mixed' : PP.follows .mixedOrders = true := mixed
  have hw1 : IntKind.i64.wrap ((i : Int) + 1) = (i : Int) + 1 := by rw [IntKind.wrap_i64]; omega
  have hb1 : (0 : Int) ≤ (i : Int) + 1 := by omega
  have hin : i ≤ n := by omega
  have htn : ((i : Int) + 1).toNat = i + 1 := by omega
  have hb2 : ¬ (c = i + 1) := by omega
  have hb3 : (i : Int) ≤ (n : Int) + 1 := by omega
  have hb4 : ¬ (c = i) := by omega
  obtain ⟨W1, hW1⟩ : ∃ W1, W1 = putRow w.drew b (setAtC cs.toList ((i + 1) * 3) (olds.drop (i * 3))).toArray T fz := ⟨_, rfl⟩
  have hcp1 : ∀ ty dc sc, (Builtin.copy_ #[24, 24] ty #[.slice (some ⟨b, (i + 1) * 3, none⟩) (n - i) dc, .slice (some ⟨b, i * 3, none⟩) (n + 1 - i) sc]).run PP w.drew = .ok (goInt (Nat.min (n + 1 - i) (n - i))) W1 := fun ty dc sc => by
    rw [hW1]
    refine run_copy_row u33 s44 (w := w.drew) hb hz (by rw [List.length_drop, hol, nmin_r (by omega), Nat.sub_mul]) (fun j u hj => ?_) (fun v hv => h1c v (List.mem_of_mem_drop hv)) (by rw [List.length_drop, hol]; omega)
    rw [List.getElem?_drop] at hj
    rw [Addr.add_lit, cell?_row (w := w.drew) hb]
    exact hog _ _ hj
  have hWb : W1.heap[b]? = some (.cells (setAtC cs.toList ((i + 1) * 3) (olds.drop (i * 3))).toArray T fz) := by rw [hW1]; exact putRow_get (w := w.drew) (lt_of_cells hb)
  have hWv : W1.heap[vb]? = some (.cells vs T' fz') := by rw [hW1]; exact (putRow_other (w := w.drew) (fun e => hne e.symm)).trans hv
  have hcp2 : ∀ ty dc, (Builtin.copy_ #[24, 24] ty #[.slice (some ⟨b, i * 3, none⟩) (n + 1 - i) dc, .slice (some ⟨vb, 0, none⟩) 1 vc]).run PP W1 = .ok (goInt (Nat.min 1 (n + 1 - i))) (putRow w.drew b (setAtC (setAtC cs.toList ((i + 1) * 3) (olds.drop (i * 3))) (i * 3) news).toArray T fz) := fun ty dc => by
    have h := run_copy_row (P := PP) (ty := ty) (dc := dc) (sc := vc) (o := i * 3) (dl := n + 1 - i) (sl := 1) (a := ⟨vb, 0, none⟩) (news := news) u33 s44 (w := W1) hWb (by simpa [setAtC_length] using hz) (by rw [hnl, nmin_l (by omega)]) (fun j u hj => by rw [Addr.add_lit, cell?_row hWv]; simpa using hng j u hj) h1v (by simp [setAtC_length, hnl]; omega)
    rw [h]
    congr 1
    rw [hW1, putRow_twice]
  clear hWb hWv hW1 hog hng ho hn
  go_enter Try.func34, ntIns
  go_wp2_with (simp only [hov])
  go_region_law_o (refine step_copy_runI rfl _ _ 24 24 rfl _ _ (by simp [Act.eval, Act.put]) (by simp [Act.eval, Act.put]) (hcp1 _ _ _) ?_)
  go_wp2_with (at_builtin; refine wpList_copy_runI _ rfl _ _ 24 24 rfl _ _ rfl rfl (hcp2 _ _) ?_)
  go_ret
  exact ⟨rfl, rfl⟩

set_option maxHeartbeats 4000000 in
set_option maxRecDepth 100000 in
theorem ins_end_room (b n c vb vc : Nat) (w : World) (cs vs : Array Value) (T T' : TypeId) (fz fz' : Nat × Nat) (hb : w.heap[b]? = some (.cells cs T fz)) (hv : w.heap[vb]? = some (.cells vs T' fz'))
    (hz : Clear cs.size fz) (hroom : n + 1 ≤ c) (hc : c * 3 ≤ cs.size) (news : List Value) (hn : news = vs.toList.take 3) (hv3 : 3 ≤ vs.size) (h1v : ∀ v ∈ news, v.oneCell' = true) :
    Calls PP 34 #[.slice (some ⟨b, 0, none⟩) n c, .int .i64 n, .slice (some ⟨vb, 0, none⟩) 1 vc] w fun e w' =>
      e = .returned (.slice (some ⟨b, 0, none⟩) (n + 1) c) ∧ w' = putRow w b (setAtC cs.toList (n * 3) news).toArray T fz := by
  have hnl : news.length = 3 := by rw [hn, List.length_take, Array.length_toList]; omega
  have hng : ∀ j v, news[j]? = some v → vs[j]? = some v := fun j v h => by
    rw [hn, List.getElem?_take] at h
    split at h
    · simpa using h
    · cases h
  have u33 := u33; have u3 := u3; have u4 := u4
  have z44' := size44
  have mixed' : PP.follows .mixedOrders = true := mixed
  obtain ⟨i0, z0, hi0, hi1, hi2, hi3, hi4⟩ := z44
  have hrun : ∀ ty, (Builtin.append_ #[24, 24] ty #[.slice (some ⟨b, 0, none⟩) n c, .slice (some ⟨vb, 0, none⟩) 1 vc]).run PP w =
      .ok (.slice (some ⟨b, 0, none⟩) (n + 1) c) (putRow w b (setAtC cs.toList (n * 3) news).toArray T fz) := fun ty => by
    have h := run_append_in (P := PP) (ty := ty) (c := vc) (a := ⟨vb, 0, none⟩) (m := 1) (news := news) u33 hi0 hb hz (by rw [hnl, hi1]) (fun j u hj => by rw [Addr.add_lit, cell?_row hv]; simpa using hng j u hj) h1v hroom (by rw [hi1, hnl]; omega)
    rw [h, hi1]
  clear hng hn
  go_enter Try.func34, ntIns
  go_wp2_with (at_builtin; refine Lib.wpList_append_run _ rfl _ _ _ _ rfl _ _ rfl rfl _ _ (hrun _) ?_)
  go_ret
  exact ⟨rfl, rfl⟩

set_option maxHeartbeats 4000000 in
set_option maxRecDepth 100000 in
theorem ins_end_nil (n vb vc : Nat) (hn0 : n = 0) (w : World) (vs : Array Value) (T' : TypeId) (fz' : Nat × Nat) (hv : w.heap[vb]? = some (.cells vs T' fz'))
    (news : List Value) (hn : news = vs.toList.take 3) (hv3 : 3 ≤ vs.size) (z0 : Value) (hz0 : ∃ i0, PP.info? 33 = some i0 ∧ i0.size = 3 ∧ i0.bytes = 64 ∧ i0.zero = some z0) :
    Calls PP 34 #[.slice none n n, .int .i64 n, .slice (some ⟨vb, 0, none⟩) 1 vc] w fun e w' =>
      e = .returned (.slice (some ⟨w.heap.size, 0, none⟩) 1 (grownCap w 1 0 33)) ∧ w' = w.drew.alloc (.cells (news.toArray ++ Builtin.zeroCells z0.cells (grownCap w 1 0 33 - 1)) 33) := by
  have hnl : news.length = 3 := by rw [hn, List.length_take, Array.length_toList]; omega
  have hng : ∀ j v, news[j]? = some v → vs[j]? = some v := fun j v h => by
    rw [hn, List.getElem?_take] at h
    split at h
    · simpa using h
    · cases h
  have u33 := u33; have u3 := u3; have u4 := u4
  have z44' := size44
  have mixed' : PP.follows .mixedOrders = true := mixed
  obtain ⟨i0, hi0, hi1, hi2, hi3⟩ := hz0
  have hrun : ∀ ty, (Builtin.append_ #[24, 24] ty #[.slice none 0 0, .slice (some ⟨vb, 0, none⟩) 1 vc]).run PP w = .ok (.slice (some ⟨w.heap.size, 0, none⟩) 1 (grownCap w 1 0 33)) (w.drew.alloc (.cells (news.toArray ++ Builtin.zeroCells z0.cells (grownCap w 1 0 33 - 1)) 33)) := fun ty =>
    run_append_nil (P := PP) w 24 ty 33 i0 z0 u33 hi0 hi3 ⟨vb, 0, none⟩ 1 vc news (by rw [hnl, hi1]) (fun j u hj => by rw [Addr.add_lit, cell?_row hv]; simpa using hng j u hj) (by omega) (by omega) (by rw [hi2]; omega)
  obtain ⟨ROW, hROW⟩ : ∃ ROW, ROW = news.toArray ++ Builtin.zeroCells z0.cells (grownCap w 1 0 33 - 1) := ⟨_, rfl⟩
  rw [← hROW] at hrun ⊢
  clear hROW hng hn
  subst hn0
  go_enter Try.func34, ntIns
  go_wp2_with (at_builtin; refine Lib.wpList_append_run _ rfl _ _ _ _ rfl _ _ rfl rfl _ _ (hrun _) ?_)
  go_ret
  exact ⟨rfl, rfl⟩

set_option maxHeartbeats 4000000 in
set_option maxRecDepth 100000 in
theorem ins_end_grow (b n c vb vc : Nat) (w : World) (cs vs : Array Value) (T T' : TypeId) (fz fz' : Nat × Nat) (hb : w.heap[b]? = some (.cells cs T fz)) (hv : w.heap[vb]? = some (.cells vs T' fz'))
    (hnc : n ≤ c) (hroom : c < n + 1) (hc : c * 3 ≤ cs.size) (hbig : (n + 1) * 64 ≤ 140737488355328) (olds news : List Value) (ho : olds = cs.toList.take (n * 3)) (hn : news = vs.toList.take 3) (hv3 : 3 ≤ vs.size) (z0 : Value) (hz0 : ∃ i0, PP.info? 33 = some i0 ∧ i0.size = 3 ∧ i0.bytes = 64 ∧ i0.zero = some z0) :
    Calls PP 34 #[.slice (some ⟨b, 0, none⟩) n c, .int .i64 n, .slice (some ⟨vb, 0, none⟩) 1 vc] w fun e w' =>
      e = .returned (.slice (some ⟨w.heap.size, 0, none⟩) (n + 1) (grownCap w (n + 1) c 33)) ∧ w' = w.drew.alloc (.cells (olds.toArray ++ news.toArray ++ Builtin.zeroCells z0.cells (grownCap w (n + 1) c 33 - (n + 1))) 33) := by
  have hol : olds.length = n * 3 := by rw [ho, List.length_take, Array.length_toList]; omega
  have hog : ∀ j v, olds[j]? = some v → cs[j]? = some v := fun j v h => by
    rw [ho, List.getElem?_take] at h
    split at h
    · simpa using h
    · cases h
  have hnl : news.length = 3 := by rw [hn, List.length_take, Array.length_toList]; omega
  have hng : ∀ j v, news[j]? = some v → vs[j]? = some v := fun j v h => by
    rw [hn, List.getElem?_take] at h
    split at h
    · simpa using h
    · cases h
  have u33 := u33; have u3 := u3; have u4 := u4
  have z44' := size44
  have mixed' : PP.follows .mixedOrders = true := mixed
  obtain ⟨i0, hi0, hi1, hi2, hi3⟩ := hz0
  have hrun : ∀ ty, (Builtin.append_ #[24, 24] ty #[.slice (some ⟨b, 0, none⟩) n c, .slice (some ⟨vb, 0, none⟩) 1 vc]).run PP w = .ok (.slice (some ⟨w.heap.size, 0, none⟩) (n + 1) (grownCap w (n + 1) c 33)) (w.drew.alloc (.cells (olds.toArray ++ news.toArray ++ Builtin.zeroCells z0.cells (grownCap w (n + 1) c 33 - (n + 1))) 33)) := fun ty =>
    run_append_grow (P := PP) w 24 ty 33 i0 z0 u33 hi0 hi3 ⟨b, 0, none⟩ n c olds (by rw [hol, hi1]) (fun j u hj => by rw [Addr.add_lit, cell?_row hb]; simpa using hog j u hj) ⟨vb, 0, none⟩ 1 vc news (by rw [hnl, hi1]) (fun j u hj => by rw [Addr.add_lit, cell?_row hv]; simpa using hng j u hj) hroom (by omega) (growslice_fits hroom (by rw [hi2]; exact hbig))
  obtain ⟨ROW, hROW⟩ : ∃ ROW, ROW = olds.toArray ++ news.toArray ++ Builtin.zeroCells z0.cells (grownCap w (n + 1) c 33 - (n + 1)) := ⟨_, rfl⟩
  rw [← hROW] at hrun ⊢
  clear hROW hng hn hog ho
  go_enter Try.func34, ntIns
  go_wp2_with (at_builtin; refine Lib.wpList_append_run _ rfl _ _ _ _ rfl _ _ rfl rfl _ _ (hrun _) ?_)
  go_ret
  exact ⟨rfl, rfl⟩

set_option maxHeartbeats 4000000 in
set_option maxRecDepth 100000 in
theorem ins_grow (b n c i vb vc : Nat) (w : World) (cs vs : Array Value) (T T' : TypeId) (fz fz' : Nat × Nat) (hb : w.heap[b]? = some (.cells cs T fz)) (hv : w.heap[vb]? = some (.cells vs T' fz'))
    (hi : i < n) (hnc : n ≤ c) (hroom : c < n + 1) (hc : c * 3 ≤ cs.size) (hbig : (n + 1) * 64 ≤ 140737488355328) (olds news : List Value) (ho : olds = cs.toList.take (n * 3)) (hn : news = vs.toList.take 3) (hv3 : 3 ≤ vs.size)
    (h1c : ∀ v ∈ olds, v.oneCell' = true) (h1v : ∀ v ∈ news, v.oneCell' = true) (z0 : Value) (hz0 : ∃ i0, PP.info? 33 = some i0 ∧ i0.size = 3 ∧ i0.bytes = 64 ∧ i0.zero = some z0) (hzl : z0.cells.size = 3) :
    Calls PP 34 #[.slice (some ⟨b, 0, none⟩) n c, .int .i64 i, .slice (some ⟨vb, 0, none⟩) 1 vc] w fun e w' =>
      e = .returned (.slice (some ⟨w.heap.size, 0, none⟩) (n + 1) (grownCap w (n + 1) c 33)) ∧
      ∃ w1 : World, w1 = w.drew.drew.alloc (.cells ((olds.take (i * 3)).toArray ++ Builtin.zeroCells z0.cells (n + 1 - i) ++ Builtin.zeroCells z0.cells (grownCap w (n + 1) c 33 - (n + 1))) 33) ∧
      w' = putRow w1 w.heap.size (setAtC (setAtC ((olds.take (i * 3)).toArray ++ Builtin.zeroCells z0.cells (n + 1 - i) ++ Builtin.zeroCells z0.cells (grownCap w (n + 1) c 33 - (n + 1))).toList (i * 3) news) ((i + 1) * 3) (olds.drop (i * 3))).toArray 33 (0, 0) := by
  have hol : olds.length = n * 3 := by rw [ho, List.length_take, Array.length_toList]; omega
  have hog : ∀ j v, olds[j]? = some v → cs[j]? = some v := fun j v h => by
    rw [ho, List.getElem?_take] at h
    split at h
    · simpa using h
    · cases h
  have hnl : news.length = 3 := by rw [hn, List.length_take, Array.length_toList]; omega
  have hng : ∀ j v, news[j]? = some v → vs[j]? = some v := fun j v h => by
    rw [hn, List.getElem?_take] at h
    split at h
    · simpa using h
    · cases h
  have u33 := u33; have u3 := u3; have u4 := u4
  have z44' := size44
  have mixed' : PP.follows .mixedOrders = true := mixed
  obtain ⟨i0, hi0, hi1, hi2, hi3⟩ := hz0
  have hz2 : ¬ ((i : Int) = (n : Int)) := by omega
  have hz3 : (c : Int) < (n : Int) + 1 := by omega
  have hbl := lt_of_cells hb
  have hvl := lt_of_cells hv
  have hkk : (n : Int) + 1 - (i : Int) = ((n + 1 - i : Nat) : Int) := by omega
  have hik : i + (n + 1 - i) = n + 1 := by omega
  have hold : (Builtin.firstCells i0.size i (.slice (some ⟨b, 0, none⟩) i c)).run PP w.drew = .ok (olds.take (i * 3)).toArray w.drew := by
    rw [hi1]
    exact run_firstCells_some w.drew 3 i ⟨b, 0, none⟩ i c (olds.take (i * 3)) (by rw [List.length_take]; omega) (fun j v hj => by
      rw [Addr.add_lit, cell?_row (w := w.drew) hb]
      rw [List.getElem?_take] at hj
      split at hj
      · simpa using hog j v hj
      · cases hj)
  obtain ⟨G, hG⟩ : ∃ G, G = grownCap w (n + 1) c 33 := ⟨_, rfl⟩
  obtain ⟨ROW, hROW⟩ : ∃ ROW : Array Value, ROW = (olds.take (i * 3)).toArray ++ Builtin.zeroCells z0.cells (n + 1 - i) ++ Builtin.zeroCells z0.cells (G - (n + 1)) := ⟨_, rfl⟩
  have hrz : ∀ ty, (Builtin.append_ #[24, 3] ty #[.slice (some ⟨b, 0, none⟩) i c, .int .i64 ((n : Int) + 1 - (i : Int))]).run PP w =
      .ok (.slice (some ⟨w.heap.size, 0, none⟩) (n + 1) G) (w.drew.alloc (.cells ROW 33)) := fun ty => by
    have h := Lib.run_append_grow_zeros (P := PP) w 24 3 ty 33 i0 z0 .i64 .i64 u33 u3 hi0 hi3 (some ⟨b, 0, none⟩) i c (olds.take (i * 3)) hold (n + 1 - i) (by omega) (by omega) (by omega) (by omega) (by rw [hi2]; omega) (by rw [hi2, hik]; exact growslice_fits hroom hbig)
    rw [hik] at h
    rw [hkk, hROW, hG]
    exact h
  have hRl : (n + 1) * 3 ≤ ROW.size := by
    rw [hROW]
    simp only [Array.size_append, List.size_toArray, List.length_take, hol, Builtin.zeroCells, Array.size_map, Array.size_range, hzl]
    omega
  rw [← hG]
  rw [← hROW]
  obtain ⟨W1, hW1⟩ : ∃ W1, W1 = w.drew.alloc (.cells ROW 33) := ⟨_, rfl⟩
  rw [← hW1] at hrz
  have hWn : W1.heap[w.heap.size]? = some (.cells ROW 33 (0, 0)) := by 
    rw [hW1]
    show (w.heap.push _)[w.heap.size]? = _
    simp
  have hWo : ∀ d, d < w.heap.size → W1.heap[d]? = w.heap[d]? := fun d hd => by
    rw [hW1]
    show (w.heap.push _)[d]? = _
    rw [Array.getElem?_push, if_neg (by omega)]
  have hc0 : ∀ m, Clear m (0, 0) := fun m i _ h => by simp at h
  obtain ⟨W2, hW2⟩ : ∃ W2, W2 = putRow W1 w.heap.size (setAtC ROW.toList (i * 3) news).toArray 33 (0, 0) := ⟨_, rfl⟩
  have hcpA : ∀ ty dc, (Builtin.copy_ #[24, 24] ty #[.slice (some ⟨w.heap.size, i * 3, none⟩) (n + 1 - i) dc, .slice (some ⟨vb, 0, none⟩) 1 vc]).run PP W1 = .ok (goInt (Nat.min 1 (n + 1 - i))) W2 := fun ty dc => by
    rw [hW2]
    exact run_copy_row u33 s44 (w := W1) hWn (hc0 _) (by rw [hnl, nmin_l (by omega)]) (fun j u hj => by rw [Addr.add_lit, cell?_row ((hWo vb hvl).trans hv)]; simpa using hng j u hj) h1v (by rw [hnl]; omega)
  have hW2n : W2.heap[w.heap.size]? = some (.cells (setAtC ROW.toList (i * 3) news).toArray 33 (0, 0)) := by rw [hW2]; exact putRow_get (lt_of_cells hWn)
  have hW2o : ∀ d, d < w.heap.size → W2.heap[d]? = w.heap[d]? := fun d hd => by rw [hW2]; exact (putRow_other (by omega)).trans (hWo d hd)
  obtain ⟨W3, hW3⟩ : ∃ W3, W3 = putRow W2.drew w.heap.size (setAtC (setAtC ROW.toList (i * 3) news) ((i + 1) * 3) (olds.drop (i * 3))).toArray 33 (0, 0) := ⟨_, rfl⟩
  have hcpB : ∀ ty dc sc, (Builtin.copy_ #[24, 24] ty #[.slice (some ⟨w.heap.size, (i + 1) * 3, none⟩) (n - i) dc, .slice (some ⟨b, i * 3, none⟩) (n - i) sc]).run PP W2.drew = .ok (goInt (Nat.min (n - i) (n - i))) W3 := fun ty dc sc => by
    rw [hW3]
    have h := run_copy_row (P := PP) (ty := ty) (dc := dc) (sc := sc) (o := (i + 1) * 3) (dl := n - i) (sl := n - i) (a := ⟨b, i * 3, none⟩) (news := olds.drop (i * 3)) u33 s44 (w := W2.drew) hW2n (hc0 _) (by rw [List.length_drop, hol, nmin_l (Nat.le_refl _), Nat.sub_mul]) (fun j u hj => by
      rw [Addr.add_lit, cell?_row (w := W2.drew) ((hW2o b hbl).trans hb)]
      rw [List.getElem?_drop] at hj
      exact hog _ _ hj) (fun v hv => h1c v (List.mem_of_mem_drop hv)) (by simp only [toArray_size, setAtC_length, Array.length_toList, List.length_drop, hol]; omega)
    exact h
  have hfin : W3 = putRow (w.drew.drew.alloc (.cells ROW 33)) w.heap.size (setAtC (setAtC ROW.toList (i * 3) news) ((i + 1) * 3) (olds.drop (i * 3))).toArray 33 (0, 0) := by
    rw [hW3, hW2, hW1]
    exact putRow_twice (w := w.drew.drew.alloc (.cells ROW 33))
  have hGn : n + 1 ≤ G := by rw [hG]; exact grownCap_ge w _ _ _
  have hGi : ¬ (G = i) := by omega
  have hGim : ¬ (G = i + 1) := by omega
  have hci : ¬ (c = i) := by omega
  have hw1 : IntKind.i64.wrap ((i : Int) + 1) = (i : Int) + 1 := by rw [IntKind.wrap_i64]; omega
  have hb1 : (0 : Int) ≤ (i : Int) + 1 := by omega
  have hin : i ≤ n := by omega
  have htn : ((i : Int) + 1).toNat = i + 1 := by omega
  have hb3 : (i : Int) ≤ (n : Int) := by omega
  clear hkk hik hold hROW hG hRl hW1 hWn hWo hW2 hW2n hW2o hW3 hog hng ho hn
  go_enter Try.func34, ntIns
  go_wp2_with (first
    | (at_builtin; refine Lib.wpList_append_run _ rfl _ _ _ _ rfl _ _ rfl rfl _ _ (hrz _) ?_)
    | (at_builtin; refine wpList_copy_runI _ rfl _ _ 24 24 rfl _ _ rfl rfl (hcpA _ _) ?_))
  go_region_law_o (refine step_copy_runI rfl _ _ 24 24 rfl _ _ (by simp [Act.eval, Act.put]) (by simp [Act.eval, Act.put]) (hcpB _ _ _) ?_)
  go_wp2
  go_ret
  exact ⟨rfl, _, rfl, rfl⟩

/-! ### the rows -/
section
variable {g : List G} {M : Mem} {w : World}
theorem Chunks_take {t : Ty} {xs : List t.den} {cs : List Value} (h : Chunks g M t xs cs) (i : Nat) : Chunks g M t (xs.take i) (cs.take (i * t.size)) := by
  intro j x hx
  rw [List.getElem?_take] at hx
  split at hx
  · rename_i hj
    have h1 := h j x hx
    have hm := Nat.mul_le_mul_right t.size (show j + 1 ≤ i by omega)
    rw [Nat.succ_mul] at hm
    rw [List.drop_take, List.take_take, Nat.min_eq_left (by omega)]
    exact h1
  · cases hx
theorem Chunks_drop {t : Ty} {xs : List t.den} {cs : List Value} (h : Chunks g M t xs cs) (i : Nat) : Chunks g M t (xs.drop i) (cs.drop (i * t.size)) := by
  intro j x hx
  rw [List.getElem?_drop] at hx
  have h1 := h _ x hx
  rw [List.drop_drop, ← Nat.add_mul]
  exact h1
theorem Chunks_ins {t : Ty} {xs : List t.den} {x : t.den} {olds news rest : List Value} (h : Chunks g M t xs olds) (hl : olds.length = xs.length * t.size) (hn : Chunks g M t [x] news) (hnl : news.length = t.size) {i : Nat} (hi : i ≤ xs.length) :
    Chunks g M t (xs.take i ++ x :: xs.drop i) (olds.take (i * t.size) ++ news ++ olds.drop (i * t.size) ++ rest) := by
  have hm := Nat.mul_le_mul_right t.size hi
  have h1 := (Chunks_take h i).append (by rw [List.length_take, List.length_take, Nat.min_eq_left (by omega), Nat.min_eq_left hi]) (hn.append (by simp [hnl]) (Chunks_drop h i))
  rw [List.append_assoc (olds.take _)]
  refine Chunks.more h1 ?_
  simp only [List.length_append, List.length_take, List.length_drop, List.length_singleton]
  rw [Nat.min_eq_left hi, Nat.min_eq_left (by omega), hl, hnl, ← Nat.sub_mul, Nat.add_mul, List.length_cons, List.length_drop, Nat.succ_mul]
  omega

theorem row_shift (cs olds news : List Value) (p q : Nat) (ho : olds = cs.take q) (hp : p ≤ q) (hn : news.length = 3) (hl : q + 3 ≤ cs.length) : ∃ rest, setAtC (setAtC cs (p + 3) (olds.drop p)) p news = olds.take p ++ news ++ olds.drop p ++ rest := by
  have hol : olds.length = q := by rw [ho, List.length_take]; omega
  rw [setAtC_split _ _ _ (by rw [setAtC_length, hn]; omega), setAtC_split (olds.drop p) cs _ (by rw [List.length_drop, hol]; omega), hn]
  refine ⟨cs.drop (p + 3 + (olds.drop p).length), ?_⟩
  have e1 : (cs.take (p + 3) ++ olds.drop p ++ cs.drop (p + 3 + (olds.drop p).length)).take p = olds.take p := by
    rw [List.append_assoc, List.take_append_of_le_length (by rw [List.length_take]; omega), List.take_take, ho, List.take_take, Nat.min_eq_left (by omega), Nat.min_eq_left (by omega)]
  have e2 : (cs.take (p + 3) ++ olds.drop p ++ cs.drop (p + 3 + (olds.drop p).length)).drop (p + 3) = olds.drop p ++ cs.drop (p + 3 + (olds.drop p).length) := by
    rw [List.append_assoc, List.drop_append, List.drop_eq_nil_of_le (by rw [List.length_take]; omega), List.nil_append, List.length_take, Nat.min_eq_left (by omega), Nat.sub_self, List.drop_zero]
  rw [e1, e2]
  simp only [List.append_assoc]

theorem row_grow (olds news Z : List Value) (p q : Nat) (hol : olds.length = q) (hp : p ≤ q) (hn : news.length = 3) (hl : q + 3 ≤ p + Z.length) : ∃ rest, setAtC (setAtC (olds.take p ++ Z) p news) (p + 3) (olds.drop p) = olds.take p ++ news ++ olds.drop p ++ rest := by
  have hl0 : (olds.take p ++ Z).length = p + Z.length := by rw [List.length_append, List.length_take, hol, Nat.min_eq_left hp]
  have hs := setAtC_split news (olds.take p ++ Z) p (by rw [hl0, hn]; omega)
  have e0 : (olds.take p ++ Z).take p = olds.take p := by rw [List.take_append_of_le_length (by rw [List.length_take]; omega), List.take_take, Nat.min_self]
  rw [e0] at hs
  rw [setAtC_split (olds.drop p) _ (p + 3) (by rw [setAtC_length, hl0, List.length_drop, hol]; omega), hs]
  have e1 : ∀ Y : List Value, (olds.take p ++ news ++ Y).take (p + 3) = olds.take p ++ news := fun Y => by
    rw [List.take_append_of_le_length (by rw [List.length_append, List.length_take, hn]; omega), List.take_of_length_le (by rw [List.length_append, List.length_take, hn]; omega)]
  exact ⟨_, by rw [e1]⟩

theorem ob_row {t : Ty} (ht : t.size = 3) (htu : t ≠ .int .u8) {xs : List t.den} {x : t.den} {olds news rest : List Value} (hc : Chunks g M t xs olds) (hol : olds.length = xs.length * 3) (hn : Chunks g M t [x] news) (hnl : news.length = 3) {i : Nat} (hi : i ≤ xs.length)
    (hsm : xs.length + 1 ≤ 9223372036854775807) {b cap : Nat} {c : Array Value} {T : TypeId} {fz : Nat × Nat} (hb : w.heap[b]? = some (.cells c T fz)) (hcap : xs.length + 1 ≤ cap) (hfit : cap * 3 ≤ c.size) (hrow : c.toList = olds.take (i * 3) ++ news ++ olds.drop (i * 3) ++ rest)
    (hz : ClearT t c.size fz) (hM : M b = none) : ObOk g M w (.sl 0 t (xs.take i ++ x :: xs.drop i)) (.sl (.slice (some ⟨b, 0, none⟩) (xs.length + 1) cap) 0 t.size) := by
  have hl : (xs.take i ++ x :: xs.drop i).length = xs.length + 1 := by
    rw [List.length_append, List.length_cons, List.length_take, List.length_drop, Nat.min_eq_left hi]; omega
  simp only [ObOk]
  refine ⟨trivial, trivial, ⟨by omega, by omega⟩, .inr ⟨b, cap, c, T, fz, by rw [hl], hb, by omega, by rw [ht]; exact hfit, ?_, hz, hM⟩⟩
  have := Chunks_ins (rest := rest) hc (by rw [ht]; exact hol) hn (by rw [ht]; exact hnl) hi
  rw [ht] at this
  rw [hrow]
  exact this
end

theorem oneC {g : List G} {M : Mem} {t : Ty} (ht : t.size = 3) {xs : List t.den} {cs : List Value} (h : Chunks g M t xs cs) (hl : cs.length = xs.length * 3) : ∀ c ∈ cs, c.oneCell' = true := h.one (by omega) (by rw [ht]; exact hl)

def InsPost (g : List G) (M : Mem) (w : World) (t : Ty) (xs : List t.den) (x : t.den) (i ver sz : Nat) (h : Value) (val : Value) (w' : World) : Prop :=
  val.oneCell' = true ∧ ObOk g M w' (.sl 0 t (xs.take i ++ x :: xs.drop i)) (.sl val 0 t.size) ∧
  (∀ b, ownB (.sl 0 t (xs.take i ++ x :: xs.drop i)) (.sl val 0 t.size) b → ownB (.sl ver t xs) (.sl h ver sz) b ∨ w.heap.size ≤ b) ∧
  (∀ b, b < w.heap.size → ¬ ownB (.sl ver t xs) (.sl h ver sz) b → w'.heap[b]? = w.heap[b]?) ∧ w.heap.size ≤ w'.heap.size ∧ w'.os = w.os ∧ w'.tape = w.tape ∧ w'.output = w.output

theorem ins_run {g : List G} {M : Mem} {w : World} {t : Ty} (ht : t.size = 3) (htu : t ≠ .int .u8) {xs : List t.den} {x : t.den} {ver sz ver2 sz2 : Nat} {h h2 : Value} (o1 : ObOk g M w (.sl ver t xs) (.sl h ver sz)) (o2 : ObOk g M w (.sl ver2 t [x]) (.sl h2 ver2 sz2))
    (hap : ∀ b, ownB (.sl ver t xs) (.sl h ver sz) b → ¬ ownB (.sl ver2 t [x]) (.sl h2 ver2 sz2) b) (hMn : M w.heap.size = none) {i : Nat} (hi : i ≤ xs.length) (hbig : (xs.length + 1) * 64 ≤ 140737488355328) :
    Calls PP 34 #[h, .int .i64 i, h2] w fun e w' => ∃ val, e = .returned val ∧ InsPost g M w t xs x i ver sz h val w' := by
  simp only [ObOk] at o1 o2
  obtain ⟨_, _, ⟨_, hxl⟩, o1⟩ := o1
  obtain ⟨_, _, _, o2⟩ := o2
  obtain ⟨i0, z0, hi0, hi1, hi2, hi3, hzl⟩ := z44
  have hz0 : ∃ i0, PP.info? 33 = some i0 ∧ i0.size = 3 ∧ i0.bytes = 64 ∧ i0.zero = some z0 := ⟨i0, hi0, hi1, hi2, hi3⟩
  rcases o2 with ⟨_, e⟩ | ⟨vb, vc, vs, T', fz', rfl, hv, hvc, hvf, hvch, hvz, hvM⟩
  · cases e
  have hv3 : 3 ≤ vs.size := by rw [ht] at hvf; simp only [List.length_singleton] at hvc; omega
  have hnch : Chunks g M t [x] vs.toList := hvch
  have hnch := hnch.take
  simp only [List.length_singleton, Nat.one_mul, ht] at hnch
  obtain ⟨news, hn⟩ : ∃ news, news = vs.toList.take 3 := ⟨_, rfl⟩
  rw [← hn] at hnch
  have hnl : news.length = 3 := by rw [hn, List.length_take, Array.length_toList]; omega
  have h1v := oneC ht hnch (by rw [hnl]; rfl)
  have hvX : ClearT tX vs.size fz' := ⟨hvz.1, .inr (hvz.2.resolve_left htu)⟩
  have hpush : ∀ (ROW : Array Value), (w.drew.alloc (.cells ROW 33)).heap[w.heap.size]? = some (.cells ROW 33 (0, 0)) := fun ROW => by
    show (w.heap.push _)[w.heap.size]? = _
    simp
  have hold : ∀ (ROW : Array Value) b, b < w.heap.size → (w.drew.alloc (.cells ROW 33)).heap[b]? = w.heap[b]? := fun ROW b hb => by
    show (w.heap.push _)[b]? = _
    rw [Array.getElem?_push, if_neg (by omega)]
  have hsz1 : ∀ (ROW : Array Value), (w.drew.alloc (.cells ROW 33)).heap.size = w.heap.size + 1 := fun ROW => by
    show (w.heap.push _).size = _
    simp
  have hnewB : ∀ (n cap : Nat) (ys : List t.den) b, ownB (.sl 0 t ys) (.sl (.slice (some ⟨w.heap.size, 0, none⟩) n cap) 0 t.size) b → w.heap.size ≤ b := fun n cap ys b hb => by
    simp only [ownB] at hb
    omega
  rcases o1 with ⟨rfl, rfl⟩ | ⟨b, c, cs, T, fz, rfl, hb, hnc, hcf, hch, hz, hM⟩
  · have hi' : i = 0 := by simpa using hi
    subst hi'
    refine (ins_end_nil 0 vb vc rfl w vs T' fz' hv news hn hv3 z0 hz0).mono ?_
    rintro e w' ⟨rfl, rfl⟩
    refine ⟨_, rfl, rfl, ?_, fun b hb => .inr (hnewB _ _ _ b hb), fun b hb _ => hold _ b hb, by rw [hsz1]; omega, rfl, rfl, rfl⟩
    have hg := grownCap_ge w 1 0 33
    exact ob_row (w := w.drew.alloc _) ht htu (xs := []) (olds := []) (news := news) (rest := (Builtin.zeroCells z0.cells (grownCap w 1 0 33 - 1)).toList) (fun i x hx => by simp at hx) rfl hnch hnl (Nat.le_refl _) (by simp) (hpush _) hg
      (by simp only [Array.size_append, List.size_toArray, hnl, size_zeroCells, hzl]; omega) (by simp) (clearT_zero _ _) hMn
  · rw [ht] at hcf
    have hch' : Chunks g M t xs cs.toList := hch
    have hcht := hch'.take
    rw [ht] at hcht
    obtain ⟨olds, ho⟩ : ∃ olds, olds = cs.toList.take (xs.length * 3) := ⟨_, rfl⟩
    rw [← ho] at hcht
    have hcl : cs.toList.length = cs.size := Array.length_toList
    have hol : olds.length = xs.length * 3 := by rw [ho, List.length_take, hcl]; omega
    have h1c := oneC ht hcht hol
    have hne : vb ≠ b := fun e => by
      subst e
      exact hap vb (by simp [ownB]) (by simp [ownB])
    have hbl := lt_of_cells hb
    by_cases hroom : xs.length + 1 ≤ c
    · have hfin : ∀ (w' : World) (row : List Value), (∃ rest, row = olds.take (i * 3) ++ news ++ olds.drop (i * 3) ++ rest) → row.length = cs.size → w'.heap = (putRow w b row.toArray T fz).heap → w'.os = w.os → w'.tape = w.tape → w'.output = w.output →
          InsPost g M w t xs x i ver sz (.slice (some ⟨b, 0, none⟩) xs.length c) (.slice (some ⟨b, 0, none⟩) (xs.length + 1) c) w' := by
        rintro w' row ⟨rest, hrow⟩ hrl hh h1 h2 h3
        have hwb : w'.heap[b]? = some (.cells row.toArray T fz) := by rw [hh]; exact putRow_get hbl
        refine ⟨rfl, ob_row ht htu hcht hol hnch hnl hi (by omega) hwb hroom (by simpa [hrl] using hcf) (by simpa using hrow) (by simpa [hrl] using hz) hM, fun b' hb' => .inl (by simp only [ownB] at hb' ⊢; exact hb'), fun b' hb' hn' => ?_, ?_, h1, h2, h3⟩
        · rw [hh]
          exact putRow_other fun e => hn' (by simp only [ownB]; exact e)
        · rw [hh, putRow_size]
          exact Nat.le_refl _
      by_cases hin : i = xs.length
      · subst hin
        refine (ins_end_room b xs.length c vb vc w cs vs T T' fz fz' hb hv hz.1 hroom hcf news hn hv3 h1v).mono ?_
        rintro e w' ⟨rfl, rfl⟩
        refine ⟨_, rfl, hfin _ (setAtC cs.toList (xs.length * 3) news) ?_ (by rw [setAtC_length, hcl]) rfl rfl rfl rfl⟩
        refine ⟨cs.toList.drop (xs.length * 3 + news.length), ?_⟩
        rw [setAtC_split news cs.toList (xs.length * 3) (by omega), ← ho, show olds.take (xs.length * 3) = olds from List.take_of_length_le (by omega), show olds.drop (xs.length * 3) = [] from List.drop_eq_nil_of_le (by omega), List.append_nil]
      · refine (ins_shift b xs.length c i vb vc w cs vs T T' fz fz' hb hv hne hz.1 hvX (by omega) hroom hcf (by omega) olds news ho hn hv3 h1c h1v).mono ?_
        rintro e w' ⟨rfl, rfl⟩
        refine ⟨_, rfl, hfin _ (setAtC (setAtC cs.toList ((i + 1) * 3) (olds.drop (i * 3))) (i * 3) news) ?_ (by rw [setAtC_length, setAtC_length, hcl]) rfl rfl rfl rfl⟩
        rw [Nat.succ_mul]
        exact row_shift cs.toList olds news (i * 3) (xs.length * 3) ho (by omega) hnl (by omega)
    · have hg := grownCap_ge w (xs.length + 1) c 33
      by_cases hin : i = xs.length
      · subst hin
        refine (ins_end_grow b xs.length c vb vc w cs vs T T' fz fz' hb hv hnc (by omega) hcf hbig olds news ho hn hv3 z0 hz0).mono ?_
        rintro e w' ⟨rfl, rfl⟩
        refine ⟨_, rfl, rfl, ?_, fun b hb => .inr (hnewB _ _ _ b hb), fun b hb _ => hold _ b hb, by rw [hsz1]; omega, rfl, rfl, rfl⟩
        exact ob_row (w := w.drew.alloc _) ht htu (rest := (Builtin.zeroCells z0.cells (grownCap w (xs.length + 1) c 33 - (xs.length + 1))).toList) hcht hol hnch hnl (Nat.le_refl _) (by omega) (hpush _) hg
          (by simp only [Array.size_append, List.size_toArray, hol, hnl, size_zeroCells, hzl]; omega) (by rw [show olds.take (xs.length * 3) = olds from List.take_of_length_le (by omega), show olds.drop (xs.length * 3) = [] from List.drop_eq_nil_of_le (by omega), List.append_nil]; simp) (clearT_zero _ _) hMn
      · refine (ins_grow b xs.length c i vb vc w cs vs T T' fz fz' hb hv (by omega) hnc (by omega) hcf hbig olds news ho hn hv3 h1c h1v z0 hz0 hzl).mono ?_
        rintro e w' ⟨rfl, w1, rfl, rfl⟩
        obtain ⟨rest, hrest⟩ := row_grow olds news ((Builtin.zeroCells z0.cells (xs.length + 1 - i)).toList ++ (Builtin.zeroCells z0.cells (grownCap w (xs.length + 1) c 33 - (xs.length + 1))).toList) (i * 3) (xs.length * 3) hol (by omega) hnl
          (by simp only [List.length_append, Array.length_toList, size_zeroCells, hzl]; omega)
        refine ⟨_, rfl, rfl, ?_, fun b hb => .inr (hnewB _ _ _ b hb), fun b hb _ => ?_, ?_, rfl, rfl, rfl⟩
        · have hi3 : (i + 1) * 3 = i * 3 + 3 := by omega
          refine ob_row ht htu (rest := rest) hcht hol hnch hnl hi (by omega) (putRow_get ?_) hg ?_ ?_ (clearT_zero _ _) hMn
          · show w.heap.size < (w.heap.push _).size
            simp
          · simp only [toArray_size, setAtC_length, Array.length_toList, Array.size_append, List.size_toArray, List.length_take, hol, size_zeroCells, hzl]
            omega
          · rw [hi3]
            simp only [Array.toList_append, List.append_assoc] at hrest ⊢
            exact hrest
        · refine (putRow_other (by omega)).trans ?_
          show (w.heap.push _)[b]? = _
          rw [Array.getElem?_push, if_neg (by omega)]
        · rw [putRow_size]
          show w.heap.size ≤ (w.heap.push _).size
          simp

theorem ok_Ins0 {t : Ty} (ht : t.size = 3) (htu : t ≠ .int .u8) : FnOkO PP 34 (sIns t) := by
  intro args H K h
  have h0 := h
  unfold sIns at h
  split at h
  · rename_i id ver i id2 ver2
    cases hid : H[id]? with
    | none => simp only [hid] at h
    | some o =>
      cases o with
      | sl v1 t1 xs =>
        cases hid2 : H[id2]? with
        | none => simp only [hid, hid2] at h
        | some o2 =>
          cases o2 with
          | sl v2 t2 ys =>
            simp only [hid, hid2] at h
            by_cases e1 : t1 = t
            · subst e1
              by_cases e2 : t2 = t1
              · subst e2
                simp only [dif_pos] at h
                cases ys with
                | nil => exact h.elim
                | cons x ys =>
                  cases ys with
                  | cons _ _ => exact h.elim
                  | nil =>
                    simp only at h
                    cases hq : (Nat.beq ver v1 && (Nat.beq ver2 v2 && !Nat.beq id id2)) with
                    | false => simp only [hq, cond_false] at h
                    | true =>
                      simp only [hq, cond_true] at h
                      cases hc : (decide (0 ≤ i) && (decide (i ≤ (xs.length : Int)) && decide ((xs.length + 1) * 64 ≤ 140737488355328))) with
                      | false => simp only [hc, cond_false] at h
                      | true =>
                        simp only [hc, cond_true] at h
                        refine ⟨_, _, h, fun K' h' => by simp only [sIns, hid, hid2, dif_pos, hq, hc, cond_true]; exact h', ?_⟩
                        intro w g M cargs hv hr hG
                        simp only [Bool.and_eq_true, decide_eq_true_eq, Bool.not_eq_true'] at hq hc
                        obtain ⟨q1, q2, q3⟩ := hq
                        obtain ⟨c1, c2, c3⟩ := hc
                        have hne : id ≠ id2 := fun e => by subst e; simp at q3
                        cases hv with
                        | cons a hv =>
                        cases hv with
                        | cons b hv =>
                        cases hv with
                        | cons d hv =>
                        cases hv
                        cases b with
                        | int _ _ rb =>
                        cases a with
                        | obj _ _ av asz ah _ a1 a2 a3 a4 =>
                        cases d with
                        | obj _ _ dv dsz dh _ d1 d2 d3 d4 =>
                        have o1 := hr.ob id _ _ hid a1
                        have o2 := hr.ob id2 _ _ hid2 d1
                        have e1 : av = v1 := by have := o1; simp only [ObOk] at this; exact this.1
                        have e2 : dv = v2 := by have := o2; simp only [ObOk] at this; exact this.1
                        subst e1
                        subst e2
                        have ea := a3 (beq_true q1)
                        have ed := d3 (beq_true q2)
                        subst ea
                        subst ed
                        obtain ⟨n, rfl⟩ : ∃ n : Nat, i = (n : Int) := ⟨i.toNat, by omega⟩
                        have hMn : M w.heap.size = none := by
                          cases hm : M w.heap.size with
                          | none => rfl
                          | some cs' =>
                            obtain ⟨c', T', fz', k1, k2⟩ := hr.mem _ _ hm
                            have := lt_of_cells k1
                            omega
                        have hrun := ins_run (w := w) (i := n) ht htu o1 o2 (fun b hb hb' => hne (hr.apart id id2 _ _ _ _ b hid a1 hid2 d1 hb hb')) hMn (by omega) c3
                        refine .inr ⟨by
                          have hn' : ¬ Try.f34.name = "runtime.NumGoroutine" := by decide
                          have hb' : ¬ Try.f34.body = none := by intro e; cases e
                          simp [callFunc, Try.func34, hn', hb'], hrun.mono ?_⟩
                        rintro e w' ⟨val, rfl, p1, p2, p3, p4, p5, p6, p7, p8⟩
                        refine ⟨val, rfl, g ++ [.sl val 0 t2.size], M, ?_⟩
                        have hgl := hr.len
                        have hkl := kill_len H [id]
                        have hE : Ext g M (g ++ [.sl val 0 t2.size]) M := Ext.snoc g M _
                        have hmem : MemOk M w' := by
                          intro b cs hb
                          obtain ⟨c, T, fz, k1, k2⟩ := hr.mem b cs hb
                          refine ⟨c, T, fz, (p4 b (lt_of_cells k1) fun ho => ?_).trans k1, k2⟩
                          rw [(Ev.own_lt o1 ho).2] at hb
                          cases hb
                        obtain ⟨r1, r2, r3⟩ := glue (L := fun j => j = id) (H' := Ev.kill H [id] ++ [.sl 0 t2 (insL xs n x)]) (g' := g ++ [.sl val 0 t2.size]) (Mn := M) (w' := w') hr hmem (fun _ _ h => h) (fun _ _ h => .inl h)
                          (fun b hb hn => p4 b hb fun ho => hn ⟨id, _, _, rfl, hid, a1, ho⟩) p5 p6 p7 p8 (by simp [hgl, hkl]) (fun j y hy => by rw [List.getElem?_append_left (lt_of_get hy)]; exact hy) (by
                            intro j o y k1 k2
                            have hcase : ∀ (j : Nat) (o : Ob) (y : G), (Ev.kill H [id] ++ [.sl 0 t2 (insL xs n x)])[j]? = some o → (g ++ [.sl val 0 t2.size])[j]? = some y →
                                (j ≠ id ∧ H[j]? = some o ∧ g[j]? = some y) ∨ (o = .dead ∧ j = id) ∨ (j = H.length ∧ o = .sl 0 t2 (insL xs n x) ∧ y = .sl val 0 t2.size) := by
                              intro j o y k1 k2
                              rcases Nat.lt_or_ge j H.length with hl | hl
                              · rw [List.getElem?_append_left (by omega)] at k1
                                rw [List.getElem?_append_left (by omega)] at k2
                                rcases kill_get k1 with ⟨m1, rfl⟩ | ⟨m1, m2⟩
                                · exact .inr (.inl ⟨rfl, by simpa using m1⟩)
                                · exact .inl ⟨by simpa using m1, m2, k2⟩
                              · rw [List.getElem?_append_right (by omega), hkl] at k1
                                rw [List.getElem?_append_right (by omega), ← hgl] at k2
                                have hj := lt_of_get k1
                                have hj : j = H.length := by simp at hj; omega
                                subst hj
                                simp at k1 k2
                                exact .inr (.inr ⟨rfl, k1.symm, k2.symm⟩)
                            rcases hcase j o y k1 k2 with ⟨m1, m2, m3⟩ | ⟨rfl, _⟩ | ⟨rfl, rfl, rfl⟩
                            · exact .inl ⟨m1, m2, m3⟩
                            · exact .inr ⟨by simp only [ObOk], fun b hb => by simp [ownB] at hb, fun id' o' x' b _ _ hb _ => by simp [ownB] at hb⟩
                            · refine .inr ⟨p2.frame hE fun b hb => ⟨rfl, ?_⟩, fun b hb => (p3 b hb).imp (fun ho => ⟨id, _, _, rfl, hid, a1, ho⟩) (fun q => q), ?_⟩
                              · exact (Ev.own_lt p2 hb).2
                              · intro id' o' x' b n1 n2 n3 n4
                                rcases hcase id' o' x' n1 n2 with ⟨s1, s2, s3⟩ | ⟨rfl, _⟩ | ⟨rfl, rfl, rfl⟩
                                · exact .inr ⟨s1, s2, s3⟩
                                · simp [ownB] at n4
                                · exact .inl rfl)
                        refine ⟨?_, r1, r2, r3⟩
                        exact .obj _ 0 0 t2.size val val (by rw [hgl, List.getElem?_append_right (Nat.le_refl _), Nat.sub_self]; rfl) (Nat.le_refl _) (fun _ => rfl) p1
              · simp only [dif_neg e2] at h
                split at h <;> exact h.elim
            · simp only [dif_neg e1] at h
          | _ => simp only [hid, hid2] at h
      | _ => simp only [hid] at h
  · exact h.elim
theorem ok_Ins {t : Ty} (ht : t.size = 3) (htu : t ≠ .int .u8) : FnOkL PP 34 (sIns t) := ⟨ok_Ins0 ht htu, sIns_local t⟩
end Go.Proofs.Ytmkomfhnomnbiaa
