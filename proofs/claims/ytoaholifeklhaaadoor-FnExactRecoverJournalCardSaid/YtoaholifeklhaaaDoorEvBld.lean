/- strings.Builder, as the evaluator takes it: its calls touch its own block, its buffer and what is new. -/
import Derived.Test.YtoaholifeklhaaaDoorEvUse
import Derived.Test.YtoaholifeklhaaaDoorEvJoin
import Derived.Shelf.Strings.BuilderK
set_option linter.unusedVariables false
set_option linter.unusedSimpArgs false
namespace Go.Ev
open Go.Shelf Go.Proofs Go.RowKit

structure BStep (w w' : World) (b : Nat) (buf : Option Nat) : Prop where
  size : w.heap.size ≤ w'.heap.size
  keep : ∀ k, k < w.heap.size → k ≠ b → buf ≠ some k → w'.heap[k]? = w.heap[k]?
  os : w'.os = w.os
  tape : w'.tape = w.tape
  output : w'.output = w.output
theorem BStep.refl (w : World) (b : Nat) (buf : Option Nat) : BStep w w b buf := ⟨Nat.le_refl _, fun _ _ _ _ => rfl, rfl, rfl, rfl⟩
theorem BStep.set {w w' : World} {b : Nat} {buf : Option Nat} (h : BStep w w' b buf) (i : Nat) (v : Value) : BStep w (w'.setCell ⟨b, i, none⟩ v) b buf :=
  ⟨by simp only [World.setCell, Array.size_modify]; exact h.size, fun k h1 h2 h3 => (Below.heap_setCell _ _ _ _ h2).trans (h.keep k h1 h2 h3), h.os, h.tape, h.output⟩
theorem BStep.grown {w w' w'' : World} {b : Nat} {buf : Option Nat} (h : BStep w w' b buf) (hg : w'.grownBy w'' buf) : BStep w w'' b buf :=
  ⟨Nat.le_trans h.size hg.size, fun k h1 h2 h3 => (hg.block k (Nat.lt_of_lt_of_le h1 h.size) fun e => h3 e.symm).trans (h.keep k h1 h2 h3), hg.os.trans h.os, hg.tape.trans h.tape, hg.output.trans h.output⟩
theorem BStep.drew {w w' : World} {b : Nat} {buf : Option Nat} (h : BStep w w' b buf) : BStep w w'.drew b buf := ⟨h.size, h.keep, h.os, h.tape, h.output⟩
theorem BStep.alloc {w w' : World} {b : Nat} {buf : Option Nat} (h : BStep w w' b buf) (o : Obj) : BStep w (w'.alloc o) b buf :=
  ⟨by have := h.size; simp; omega, fun k h1 h2 h3 => (Lib.alloc_old w' o k (Nat.lt_of_lt_of_le h1 h.size)).trans (h.keep k h1 h2 h3), h.os, h.tape, h.output⟩
theorem BStep.freeze {w w' : World} {b g : Nat} (h : BStep w w' b (some g)) (n : Nat) : BStep w (w'.freeze ⟨g, 0, none⟩ n) b (some g) := by
  unfold World.freeze
  split
  · exact h
  · refine ⟨by simp only [Array.size_modify]; exact h.size, fun k h1 h2 h3 => ?_, h.os, h.tape, h.output⟩
    rw [← h.keep k h1 h2 h3]
    simp only [Array.getElem?_modify]
    rw [if_neg fun e => h3 (by rw [e])]

/-- Appending a string: the row is the old one or a new one. -/
theorem append_string_at {P : Program} (w : World) (t u ty e : TypeId) (i : TypeInfo) (ht : P.underlying t = some (.slice e)) (hu : P.underlying u = some .string) (hi : P.info? e = some i) (hz : i.zero = some (.int .u8 0))
    (hsize : i.size = 1) (hby : i.bytes = 1) (v : Value) (n : Nat) (xs : List Value) (hown : w.ownsRowF 0 e 1 v n xs) (s : ByteArray)
    (h63 : n + s.size ≤ maxLen) (hbytes : n + s.size ≤ 140737488355328) :
    ∃ v' w', (Builtin.append_ #[t, u] ty #[v, .string s]).run P w = .ok v' w' ∧ w'.ownsRowF 0 e 1 v' (n + s.size) (xs ++ Lib.strCells s) ∧ w.grownBy w' v.ownBlock ∧
      (v'.ownBlock = v.ownBlock ∨ ∃ g, v'.ownBlock = some g ∧ w.heap.size ≤ g) ∧ (v = .slice none 0 0 ∧ s.size = 0 → v' = .slice none 0 0) := by
  have weak : ∀ {w' : World} {v' : Value} {n' : Nat} {ys : List Value} {B : Nat}, w'.ownsRowF B e 1 v' n' ys → w'.ownsRowF 0 e 1 v' n' ys := by
    rintro w' v' n' ys B ⟨h1, h2⟩
    refine ⟨h1, h2.imp id ?_⟩
    rintro ⟨g, cap, cur, fz, a1, a2, r⟩
    exact ⟨g, cap, cur, fz, a1, Nat.zero_le _, r⟩
  have fresh : ∀ {w' : World} {v' : Value} {n' : Nat} {ys : List Value}, v.ownBlock = none → w'.ownsRowF w.heap.size e 1 v' n' ys → (v'.ownBlock = v.ownBlock ∨ ∃ g, v'.ownBlock = some g ∧ w.heap.size ≤ g) := by
    rintro w' v' n' ys hv ⟨h1, h2⟩
    rcases h2 with ⟨rfl, _⟩ | ⟨g, cap, cur, fz, rfl, a2, r⟩
    · exact .inl (by rw [hv]; rfl)
    · exact .inr ⟨g, rfl, a2⟩
  rcases hown.2 with ⟨rfl, rfl⟩ | ⟨g, cap, cur, fz, rfl, hbg, hg, hfz, hnc, hcm, hcs, htake⟩
  · obtain ⟨v', w', h1, h2, h3, h4⟩ := Lib.run_append_own_string (P := P) w w.heap.size t u ty e i ht hu hi hz hsize hby (.slice none 0 0) 0 xs ⟨hown.1, .inl ⟨rfl, rfl⟩⟩ s h63 hbytes (Nat.le_refl _)
    have h2' := World.ownsRowF_of h2
    exact ⟨v', w', h1, weak h2', h3, fresh rfl h2', h4.2⟩
  · by_cases hroom : n + s.size ≤ cap
    · have hcs' : cur.size = cap := by simpa using hcs
      have hxl : xs.length = n := by simpa using hown.1
      have hr := Lib.run_append_room_stringF (P := P) w t u ty e i ht hu hi hsize g n cap cur fz hg (by simpa using hfz) s hroom (by omega)
      obtain ⟨v', w', h1, h2, h3, h4⟩ := Lib.run_append_own_stringF (P := P) w 0 t u ty e i ht hu hi hz hsize hby _ n xs hown s h63 hbytes (Nat.zero_le _)
      rw [hr] at h1
      injection h1 with e1 e2
      subst e1 e2
      exact ⟨_, _, hr, h2, h3, .inl rfl, h4.2⟩
    · have hxl : xs.length = n := by simpa using hown.1
      have holds : ∀ j u, xs[j]? = some u → w.cell? ((⟨g, 0, none⟩ : Addr).add j) = some u := hown.cells (g := g) rfl
      have hr := Lib.run_append_grow_string (P := P) w t u ty e i (.int .u8 0) ht hu hi hz ⟨g, 0, none⟩ n cap xs (by rw [hsize]; simpa using hxl) holds s (by omega) (by simp only [maxLen] at h63; omega) (by rw [hby]; exact growslice_fits (by omega) (by omega))
      obtain ⟨v', w', h1, h2, h3, h4⟩ := Lib.run_append_own_stringF (P := P) w 0 t u ty e i ht hu hi hz hsize hby _ n xs hown s h63 hbytes (Nat.zero_le _)
      rw [hr] at h1
      injection h1 with e1 e2
      subst e1 e2
      exact ⟨_, _, hr, h2, h3, .inr ⟨_, rfl, Nat.le_refl _⟩, h4.2⟩

theorem wpList_append_string_at {P : Program} {w : World} {ops : Array Oper} {rest : List Oper} {o : Oper} {a : Act} {Q : Exit → Act → World → Prop} (hgd : o.guard = none) (sl x : Operand) (t u : TypeId)
    (ho : o.op = .call { callee := .builtin .append, args := #[sl, x], argTypes := #[t, u] })
    (e : TypeId) (i : TypeInfo) (ht : P.underlying t = some (.slice e)) (hu : P.underlying u = some .string) (hi : P.info? e = some i) (hz : i.zero = some (.int .u8 0))
    (hsize : i.size = 1) (hby : i.bytes = 1)
    (v : Value) (n : Nat) (xs : List Value) (hs : a.eval sl = v) (hown : w.ownsRowF 0 e 1 v n xs) (s : ByteArray) (hx : a.eval x = .string s)
    (h63 : n + s.size ≤ maxLen) (hbytes : n + s.size ≤ 140737488355328)
    (h : ∀ v' w', w'.ownsRowF 0 e 1 v' (n + s.size) (xs ++ Lib.strCells s) → w.grownBy w' v.ownBlock → (v'.ownBlock = v.ownBlock ∨ ∃ g, v'.ownBlock = some g ∧ w.heap.size ≤ g) → (v = .slice none 0 0 ∧ s.size = 0 → v' = .slice none 0 0) → wpList P ops Q rest (a.put o.dst v') w') : wpList P ops Q (o :: rest) a w := by
  refine wpList_plain hgd fun K hK => ?_
  obtain ⟨v', w', hr, h2, h3, h4, h5⟩ := append_string_at (P := P) w t u o.type e i ht hu hi hz hsize hby v n xs hown s h63 hbytes
  unfold Oper.wp execOp
  simp only [ho, resolve, invoke, builtin, Sem.run_bind, Sem.run_pure, Result.andThen_ok, List.map_toArray, List.map_cons, List.map_nil, hs, hx, hr]
  exact hK _ _ (h v' w' h2 h3 h4 h5)

section
variable {P : Program} {ρ : Ren}

theorem bld_check (L : Lays.n240 P ρ) (X : Builder.X72 P ρ) (b : Nat) (p v : Value) (n : Nat) (bs : List Value) (w : World) (hp : p = .pointer none ∨ p = .pointer (some ⟨b, 0, none⟩))
    (hbk : w.heap[b]? = some (.cells #[p, v] (ρ.t 72) (0, 0))) (hown : w.ownsRowF 0 (ρ.t 5) 1 v n bs) (hne : v.ownBlock ≠ some b) :
    Calls P (ρ.f 240) #[.pointer (some ⟨b, 0, none⟩)] w fun e w' => e = .returned (.tuple #[]) ∧ w'.heap[b]? = some (.cells #[.pointer (some ⟨b, 0, none⟩), v] (ρ.t 72) (0, 0)) ∧ w'.ownsRowF 0 (ρ.t 5) 1 v n bs ∧ BStep w w' b v.ownBlock ∧ w'.heap.size = w.heap.size := by
  have c0 : w.cell? ⟨b, 0, none⟩ = some p := by rw [Lib.cell_of_heap hbk]; rfl
  rcases hp with rfl | rfl
  · refine (Any.Builder_copyCheck_fresh L X b w c0 (by simp [World.shape?, hbk]) (by simp [World.frozen?, hbk])).mono ?_
    rintro e w' ⟨rfl, rfl⟩
    refine ⟨rfl, ?_, ?_, (BStep.refl _ _ _).set _ _, by simp [World.setCell]⟩
    · simp [World.setCell, Array.getElem?_modify, hbk]
    · exact hown.kept (row := some b) ⟨rfl, rfl, rfl, by simp [World.setCell], fun k _ hk => Below.heap_setCell _ _ _ _ (fun e => hk (by simp [e]))⟩ (Or.inr hne)
  · refine (Any.Builder_copyCheck_used L X b w c0).mono ?_
    rintro e w' ⟨rfl, rfl⟩
    exact ⟨rfl, hbk, hown, BStep.refl _ _ _, rfl⟩

set_option maxHeartbeats 2000000 in
set_option maxRecDepth 100000 in
theorem bld_WriteString (L : Lays.n166 P ρ) (X : Builder.Extra P ρ) (b : Nat) (p v : Value) (bs : List Value) (s : ByteArray) (w : World) (hp : p = .pointer none ∨ p = .pointer (some ⟨b, 0, none⟩))
    (hbk0 : w.heap[b]? = some (.cells #[p, v] (ρ.t 72) (0, 0))) (hown0 : w.ownsRowF 0 (ρ.t 5) 1 v bs.length bs) (hne : v.ownBlock ≠ some b) (hlen : bs.length + s.size ≤ 140737488355328) :
    Calls P (ρ.f 166) #[.pointer (some ⟨b, 0, none⟩), .string s] w fun e w' => e = .returned (.tuple #[.int .i64 s.size, .nilIface]) ∧ ∃ v', w'.heap[b]? = some (.cells #[.pointer (some ⟨b, 0, none⟩), v'] (ρ.t 72) (0, 0)) ∧
      w'.ownsRowF 0 (ρ.t 5) 1 v' (bs.length + s.size) (bs ++ Lib.strCells s) ∧ v'.ownBlock ≠ some b ∧ (v'.ownBlock = v.ownBlock ∨ ∃ g, v'.ownBlock = some g ∧ w.heap.size ≤ g) ∧ BStep w w' b v.ownBlock ∧ (v = .slice none 0 0 ∧ s.size = 0 → v' = .slice none 0 0) := by
  obtain ⟨i0, hi, hz0, hz1, hz2⟩ := info_parts X.infoByte
  have mixed := L.mixed
  have t72 := L.t72; have a72 := L.a72; have z72 := L.z72; have v72 := L.v72; have u72 := run_underlying L.t72
  have t70 := L.t70; have a70 := L.a70; have z70 := L.z70; have v70 := L.v70; have u70 := run_underlying L.t70
  have t37 := L.t37; have a37 := L.a37; have z37 := L.z37; have v37 := L.v37; have u37 := run_underlying L.t37
  have t3 := L.t3; have a3 := L.a3; have z3 := L.z3; have v3 := L.v3; have u3 := run_underlying L.t3
  have t9 := L.t9; have a9 := L.a9; have z9 := L.z9; have v9 := L.v9; have u9 := run_underlying L.t9
  have t4 := L.t4; have a4 := L.a4; have z4 := L.z4; have v4 := L.v4; have u4 := run_underlying L.t4
  have t164 := L.t164; have a164 := L.a164; have z164 := L.z164; have v164 := L.v164; have u164 := run_underlying L.t164
  have t5 := X.t5; have a5 := X.a5; have z5 := X.z5; have v5 := X.v5; have u5 := run_underlying X.t5
  have e240 : ∀ args w, (callFunc (ρ.f 240) args).run P w = .ok (.enter (ρ.f 240) args) w := enters_of L.f240 (by kernel_rfl) rfl
  go_enter L.f166, Body.n166_ntmps ρ
  go_wp2_with (go_at_fn (ρ.f 240); refine (bld_check { L with } X.toX72 b p v bs.length bs _ hp hbk0 hown0 hne).mono ?_)
  rintro e w1 ⟨rfl, hbk, hown, hs1, hz⟩
  have c0 : w1.cell? ⟨b, 0, none⟩ = some (.pointer (some ⟨b, 0, none⟩)) := by rw [Lib.cell_of_heap hbk]; rfl
  have c1 : w1.cell? ⟨b, 1, none⟩ = some v := by rw [Lib.cell_of_heap hbk]; rfl
  go_wp2_with (at_builtin; refine wpList_append_string_at rfl _ _ (ρ.t 37) (ρ.t 9) rfl (ρ.t 5) i0 L.t37 L.t9 hi hz0 hz1 hz2 _ _ _ rfl hown s rfl ?c3 ?c4 ?_)
  case c3 => unfold maxLen; omega
  case c4 => omega
  intro v' w2 hown' hgrow hat hnil
  have hlt : b < w1.heap.size := by
    rcases Nat.lt_or_ge b w1.heap.size with h' | h'
    · exact h'
    · simp [Array.getElem?_eq_none h'] at hbk
  have hb2 : w2.heap[b]? = some (.cells #[.pointer (some ⟨b, 0, none⟩), v] (ρ.t 72) (0, 0)) := by
    rw [hgrow.block b hlt (fun e => hne e.symm)]
    exact hbk
  have d0 : w2.cell? ⟨b, 0, none⟩ = some (.pointer (some ⟨b, 0, none⟩)) := by rw [Lib.cell_of_heap hb2]; rfl
  have d1 : w2.cell? ⟨b, 1, none⟩ = some v := by rw [Lib.cell_of_heap hb2]; rfl
  have f1 : w2.frozen? ⟨b, 1, none⟩ = false := Lib.frozen_of_heap hb2 1
  have hs2 := hs1.grown hgrow
  have hne' : v'.ownBlock ≠ some b := Lib.ownBlock_neF hown' hb2 X.neB5
  obtain ⟨ao, n', cap, rfl⟩ : ∃ ao n' cap, v' = .slice ao n' cap := by
    rcases hown'.2 with ⟨hv, _⟩ | ⟨g, cap, cur, fz, hv, _⟩
    · exact ⟨_, _, _, hv⟩
    · exact ⟨_, _, _, hv⟩
  go_wp2
  go_ret2
  refine ⟨rfl, _, ?_, ?_, hne', hat, hs2.set _ _, fun e => hnil e.1 (by simpa using e.2)⟩
  · simp [World.setCell, Array.getElem?_modify, hb2]
  · exact hown'.kept (row := some b) ⟨rfl, rfl, rfl, by simp [World.setCell], fun k _ hk => Below.heap_setCell _ _ _ _ (fun e => hk (by simp [e]))⟩ (Or.inr hne')

set_option maxHeartbeats 1000000 in
set_option maxRecDepth 100000 in
theorem bld_Len (L : Lays.n170 P ρ) (b : Nat) (p v : Value) (bs : List Value) (w : World)
    (hbk : w.heap[b]? = some (.cells #[p, v] (ρ.t 72) (0, 0))) (hown : w.ownsRowF 0 (ρ.t 5) 1 v bs.length bs) :
    Calls P (ρ.f 170) #[.pointer (some ⟨b, 0, none⟩)] w fun e w' => e = .returned (.int .i64 bs.length) ∧ w' = w := by
  obtain ⟨ao, cap, rfl⟩ : ∃ ao cap, v = .slice ao bs.length cap := by
    rcases hown.2 with ⟨hv, h0⟩ | ⟨g, cap, cur, fz, hv, _⟩
    · exact ⟨none, 0, by rw [hv, h0]⟩
    · exact ⟨_, _, hv⟩
  have c1 : w.cell? ⟨b, 1, none⟩ = some (.slice ao bs.length cap) := by rw [Lib.cell_of_heap hbk]; rfl
  have mixed := L.mixed
  have t72 := L.t72; have a72 := L.a72; have z72 := L.z72; have v72 := L.v72; have u72 := run_underlying L.t72
  have t70 := L.t70; have a70 := L.a70; have z70 := L.z70; have v70 := L.v70; have u70 := run_underlying L.t70
  have t37 := L.t37; have a37 := L.a37; have z37 := L.z37; have v37 := L.v37; have u37 := run_underlying L.t37
  have t3 := L.t3; have a3 := L.a3; have z3 := L.z3; have v3 := L.v3; have u3 := run_underlying L.t3
  go_enter L.f170, Body.n170_ntmps ρ
  go_wp2
  go_ret
  exact ⟨rfl, rfl⟩

/-- What String leaves: the builder with the same bytes. -/
structure BLeft (T e : TypeId) (w w' : World) (b : Nat) (p v : Value) (n : Nat) (bs : List Value) : Prop where
  row : w'.heap[b]? = some (.cells #[p, v] T (0, 0))
  own : w'.ownsRowF 0 e 1 v n bs
  step : BStep w w' b v.ownBlock

set_option maxHeartbeats 2000000 in
set_option maxRecDepth 100000 in
theorem bld_String (L : Lays.n169 P ρ) (X : Builder.Extra P ρ) (b : Nat) (p v : Value) (l : List UInt8) (w : World)
    (hbk : w.heap[b]? = some (.cells #[p, v] (ρ.t 72) (0, 0))) (hown : w.ownsRowF 0 (ρ.t 5) 1 v l.length (Lib.byteCells l)) (hne : v.ownBlock ≠ some b) :
    Calls P (ρ.f 169) #[.pointer (some ⟨b, 0, none⟩)] w fun e w' => e = .returned (.string ⟨l.toArray⟩) ∧ BLeft (ρ.t 72) (ρ.t 5) w w' b p v l.length (Lib.byteCells l) := by
  have hlt : b < w.heap.size := by
    rcases Nat.lt_or_ge b w.heap.size with h' | h'
    · exact h'
    · simp [Array.getElem?_eq_none h'] at hbk
  have mixed := L.mixed
  have t72 := L.t72; have a72 := L.a72; have z72 := L.z72; have v72 := L.v72; have u72 := run_underlying L.t72
  have t70 := L.t70; have a70 := L.a70; have z70 := L.z70; have v70 := L.v70; have u70 := run_underlying L.t70
  have t37 := L.t37; have a37 := L.a37; have z37 := L.z37; have v37 := L.v37; have u37 := run_underlying L.t37
  have t127 := L.t127; have a127 := L.a127; have z127 := L.z127; have v127 := L.v127; have u127 := run_underlying L.t127
  have t3 := L.t3; have a3 := L.a3; have z3 := L.z3; have v3 := L.v3; have u3 := run_underlying L.t3
  have t9 := L.t9; have a9 := L.a9; have z9 := L.z9; have v9 := L.v9; have u9 := run_underlying L.t9
  have t5 := X.t5; have a5 := X.a5; have z5 := X.z5; have v5 := X.v5; have u5 := run_underlying X.t5
  rcases hown.2 with ⟨rfl, h0⟩ | ⟨g, cap, cur, fz, rfl, hbg, hg, hfz, hnc, hcm, hcs, htake⟩
  · -- no row
    have hl : l = [] := List.eq_nil_of_length_eq_zero h0
    subst hl
    have hUS := Any.unsafeString_none L X
    have c1 : w.drew.cell? ⟨b, 1, none⟩ = some (.slice none 0 0) := by
      have : w.drew.heap[b]? = some (.cells #[p, .slice none 0 0] (ρ.t 72) (0, 0)) := hbk
      rw [Lib.cell_of_heap this]; rfl
    have hSD : (Builtin.unsafeSliceData_ #[(ρ.t 37)] (ρ.t 127) #[.slice none 0 0]).run P w.drew = .ok (.pointer none) w.drew := rfl
    have left : BLeft (ρ.t 72) (ρ.t 5) w w.drew b p (.slice none 0 0) 0 (Lib.byteCells []) := ⟨hbk, hown, (BStep.refl _ _ _).drew⟩
    go_enter L.f169, Body.n169_ntmps ρ
    go_wp2
    go_region_o
    all_goals (go_wp2; go_ret; exact ⟨rfl, left⟩)
  · by_cases hl0 : l.length = 0
    · have hl : l = [] := List.eq_nil_of_length_eq_zero hl0
      subst hl
      have hUS := Any.unsafeString_none L X
      by_cases hc0 : cap = 0
      · subst hc0
        have c1 : w.drew.cell? ⟨b, 1, none⟩ = some (.slice (some ⟨g, 0, none⟩) 0 0) := by
          have : w.drew.heap[b]? = some (.cells #[p, .slice (some ⟨g, 0, none⟩) 0 0] (ρ.t 72) (0, 0)) := hbk
          rw [Lib.cell_of_heap this]; rfl
        have hSD : (Builtin.unsafeSliceData_ #[(ρ.t 37)] (ρ.t 127) #[.slice (some ⟨g, 0, none⟩) 0 0]).run P w.drew = .ok (.pointer (some ⟨w.drew.heap.size, 0, none⟩)) (w.drew.alloc (.view ⟨g, 0, none⟩ (ρ.t 5))) :=
          Lib.run_unsafeSliceData_zero w.drew _ _ (ρ.t 5) L.t127 ⟨g, 0, none⟩ 0 ((ρ.t 5), cur.size) (by have hg' : w.drew.heap[g]? = some (.cells cur (ρ.t 5) fz) := hg; simp [World.shape?, hg'])
        have c2 : (w.drew.alloc (.view ⟨g, 0, none⟩ (ρ.t 5))).cell? ⟨b, 1, none⟩ = some (.slice (some ⟨g, 0, none⟩) 0 0) := by
          have : (w.drew.alloc (.view ⟨g, 0, none⟩ (ρ.t 5))).heap[b]? = _ := (Lib.alloc_old w.drew _ b hlt).trans hbk
          rw [Lib.cell_of_heap this]; rfl
        have c3 : (w.alloc (.view ⟨g, 0, none⟩ (ρ.t 5))).drew.cell? ⟨b, 1, none⟩ = some (.slice (some ⟨g, 0, none⟩) 0 0) := c2
        have c0 : w.cell? ⟨b, 1, none⟩ = some (.slice (some ⟨g, 0, none⟩) 0 0) := c1
        have left : BLeft (ρ.t 72) (ρ.t 5) w (w.drew.alloc (.view ⟨g, 0, none⟩ (ρ.t 5))) b p (.slice (some ⟨g, 0, none⟩) 0 0) 0 (Lib.byteCells []) :=
          ⟨(Lib.alloc_old w.drew _ b hlt).trans hbk, World.ownsRowF.kept (w := w.drew) hown (World.grownBy_alloc w.drew _ (some b)) (Or.inr hne), ((BStep.refl _ _ _).drew).alloc _⟩
        go_enter L.f169, Body.n169_ntmps ρ
        go_wp2
        go_region_o
        all_goals (go_wp2; go_ret; exact ⟨rfl, left⟩)
      · have c1 : w.drew.cell? ⟨b, 1, none⟩ = some (.slice (some ⟨g, 0, none⟩) 0 cap) := by
          have : w.drew.heap[b]? = some (.cells #[p, .slice (some ⟨g, 0, none⟩) 0 cap] (ρ.t 72) (0, 0)) := hbk
          rw [Lib.cell_of_heap this]; rfl
        have hSD : (Builtin.unsafeSliceData_ #[(ρ.t 37)] (ρ.t 127) #[.slice (some ⟨g, 0, none⟩) 0 cap]).run P w.drew = .ok (.pointer (some ⟨g, 0, none⟩)) w.drew :=
          Lib.run_unsafeSliceData_row _ _ _ _ _ _ hc0
        have left : BLeft (ρ.t 72) (ρ.t 5) w w.drew b p (.slice (some ⟨g, 0, none⟩) 0 cap) 0 (Lib.byteCells []) := ⟨hbk, hown, (BStep.refl _ _ _).drew⟩
        clear hc0
        go_enter L.f169, Body.n169_ntmps ρ
        go_wp2
        go_region_o
        all_goals (go_wp2; go_ret; exact ⟨rfl, left⟩)
    · have h0 : l ≠ [] := fun e => hl0 (by rw [e]; rfl)
      have c1 : w.drew.cell? ⟨b, 1, none⟩ = some (.slice (some ⟨g, 0, none⟩) l.length cap) := by
        have : w.drew.heap[b]? = some (.cells #[p, .slice (some ⟨g, 0, none⟩) l.length cap] (ρ.t 72) (0, 0)) := hbk
        rw [Lib.cell_of_heap this]; rfl
      have hSD : (Builtin.unsafeSliceData_ #[(ρ.t 37)] (ρ.t 127) #[.slice (some ⟨g, 0, none⟩) l.length cap]).run P w.drew = .ok (.pointer (some ⟨g, 0, none⟩)) w.drew :=
        Lib.run_unsafeSliceData_row _ _ _ _ _ _ (by omega)
      have hUS : (Builtin.unsafeString_ #[(ρ.t 127), (ρ.t 3)] (ρ.t 9) #[.pointer (some ⟨g, 0, none⟩), .int .i64 l.length]).run P w.drew = .ok (.string ⟨l.toArray⟩) (w.drew.freeze ⟨g, 0, none⟩ l.length) := by
        refine Lib.run_unsafeString_row w.drew (ρ.t 127) (ρ.t 3) (ρ.t 9) (ρ.t 5) L.t127 X.cellsByte g cur.size (by have hg' : w.drew.heap[g]? = some (.cells cur (ρ.t 5) fz) := hg; simp [World.shape?, hg']) l h0 (by omega) (by unfold maxLen at hcm; omega) ?_
        intro j x hx
        have := hown.cells (g := g) rfl j (.int .u8 x.toNat) (by simp [Lib.byteCells, hx])
        exact this
      have hF := (show Lib.BuilderAtF (ρ.t 72) (ρ.t 5) 0 b p (Lib.byteCells l) w.drew from ⟨Nat.zero_le _, _, hbk, by rw [Lib.byteCells_length]; exact hown, hne⟩).froze (g := g) (cap := cap) (by rw [Lib.byteCells_length]; exact c1)
      rw [Lib.byteCells_length] at hF
      obtain ⟨_, v2, hF1, hF2, _⟩ := hF
      have hgb : g ≠ b := fun e => hne (by simp [Value.ownBlock, e])
      have hb' : (w.drew.freeze ⟨g, 0, none⟩ l.length).heap[b]? = some (.cells #[p, .slice (some ⟨g, 0, none⟩) l.length cap] (ρ.t 72) (0, 0)) :=
        (((BStep.refl w.drew g (some g)).freeze l.length).keep b hlt (fun e => hgb e.symm) (fun e => hgb (by injection e))).trans hbk
      rw [hb'] at hF1
      injection hF1 with hF1
      injection hF1 with hF1
      injection hF1 with hF1
      injection hF1 with _ hF1
      injection hF1 with hF1
      subst hF1
      rw [Lib.byteCells_length] at hF2
      have left : BLeft (ρ.t 72) (ρ.t 5) w (w.drew.freeze ⟨g, 0, none⟩ l.length) b p (.slice (some ⟨g, 0, none⟩) l.length cap) l.length (Lib.byteCells l) :=
        ⟨hb', hF2, ((BStep.refl w b (some g)).drew).freeze _⟩
      go_enter L.f169, Body.n169_ntmps ρ
      go_wp2
      go_region_o
      all_goals (go_wp2; go_ret; exact ⟨rfl, left⟩)

end

/-! ### as the evaluator takes them -/
def sBWrite (T0 e0 : TypeId) : Sm := fun args H K =>
  match args with
  | [.bptr id, .str s] =>
    match H[id]? with
    | some (.bld T e l) => bif Nat.beq T T0 && Nat.beq e e0 then cond (decide (l.length + s.length ≤ 140737488355328)) (K (.tuple [.int .i64 s.length, .undef]) (H.set id (.bld T e (l ++ s)))) False else False
    | _ => False
  | _ => False
def sBString (T0 e0 : TypeId) : Sm := fun args H K =>
  match args with
  | [.bptr id] =>
    match H[id]? with
    | some (.bld T e l) => bif Nat.beq T T0 && Nat.beq e e0 then cond (decide (l.length ≤ 140737488355328)) (K (.str l) H) False else False
    | _ => False
  | _ => False
def sBLen (T0 e0 : TypeId) : Sm := fun args H K =>
  match args with
  | [.bptr id] =>
    match H[id]? with
    | some (.bld T e l) => bif Nat.beq T T0 && Nat.beq e e0 then cond (decide (l.length ≤ 140737488355328)) (K (.int .i64 l.length) H) False else False
    | _ => False
  | _ => False

theorem set_as_was {α : Type} {xs : List α} {i : Nat} {x : α} (h : xs[i]? = some x) : xs.set i x = xs := by
  refine List.ext_getElem? fun j => ?_
  rw [List.getElem?_set]
  split
  · rename_i e
    subst e
    rw [h]
    simp [(List.getElem?_eq_some_iff.1 h).1]
  · rfl
theorem Base.start (w : World) (M : Mem) (H : Heap) (g : List G) : Base w M (Z.of H g) H g M w :=
  ⟨Nat.le_refl _, fun _ _ _ => rfl, fun _ h => .inl h, fun _ _ h => h, fun _ _ h => .inl h, rfl, rfl, rfl, fun _ _ h => h.1⟩

theorem mem_new {H : Heap} {g : List G} {M : Mem} {w : World} (hr : HR H g M w) {c : Nat} (h : w.heap.size ≤ c) : M c = none := by
  cases e : M c with
  | none => rfl
  | some cs =>
    obtain ⟨c', T, fz, p1, p2⟩ := hr.mem c cs e
    have := lt_of_cells p1
    omega

/-- The builder's part of a step. -/
theorem bld_step {H : Heap} {g : List G} {M : Mem} {w w' : World} (hr : HR H g M w) {id b : Nat} {buf : Option Nat} {T e : TypeId} {l l' : List UInt8} (hH : H[id]? = some (.bld T e l)) (hg : g[id]? = some (.bld b buf))
    {p v v' : Value} (hp : p = .pointer none ∨ p = .pointer (some ⟨b, 0, none⟩)) (hv : v.ownBlock = buf) (hMb : M b = none) (hMbuf : ∀ c, buf = some c → M c = none)
    (k1 : w'.heap[b]? = some (.cells #[p, v'] T (0, 0))) (k2 : w'.ownsRowF 0 e 1 v' l'.length (Lib.byteCells l')) (k3 : v'.ownBlock ≠ some b)
    (k4 : v'.ownBlock = v.ownBlock ∨ ∃ c, v'.ownBlock = some c ∧ w.heap.size ≤ c) (k5 : BStep w w' b v.ownBlock) (k6 : l' = [] → v' = .slice none 0 0) :
    HR (H.set id (.bld T e l')) (g.set id (.bld b v'.ownBlock)) M w' ∧ Ext g M (g.set id (.bld b v'.ownBlock)) M ∧
      Base w M (Z.of H g) (H.set id (.bld T e l')) (g.set id (.bld b v'.ownBlock)) M w' := by
  have hle : Gle (.bld b buf) (.bld b v'.ownBlock) := rfl
  have hkeep : ∀ b', b' < w.heap.size → ¬ ownB (.bld T e l) (.bld b buf) b' → w'.heap[b']? = w.heap[b']? := by
    intro b' h1 h2
    refine k5.keep b' h1 (fun e => h2 (.inl e.symm)) fun e => h2 (.inr ?_)
    rw [← hv]; exact e
  have hown : ∀ b', ownB (.bld T e l') (.bld b v'.ownBlock) b' → ownB (.bld T e l) (.bld b buf) b' ∨ w.heap.size ≤ b' := by
    rintro b' (h | h)
    · exact .inl (.inl h)
    · rcases k4 with k | ⟨c, k, hc⟩
      · exact .inl (.inr (by rw [← hv, ← k]; exact h))
      · rw [k] at h
        injection h with h
        exact .inr (by omega)
  have hob : ObOk (g.set id (.bld b v'.ownBlock)) M w' (.bld T e l') (.bld b v'.ownBlock) := by
    refine ⟨p, v', k1, hp, k2, rfl, k3, hMb, fun c hc => ?_, k6⟩
    rcases k4 with k | ⟨c', k, hc'⟩
    · exact hMbuf c (by rw [← hv, ← k]; exact hc)
    · rw [k] at hc
      injection hc with hc
      subst hc
      exact mem_new hr hc'
  exact ⟨HR.update hr hH hg hle hkeep hob hown, ext_set hg hle, Base.update (Base.start w M H g) hH hg (fun e => by cases e) k5.size k5.os k5.tape k5.output hkeep hown⟩

section
variable {P : Program} {ρ : Ren}

theorem ok_BWrite0 (L : Lays.n166 P ρ) (X : Builder.Extra P ρ) {k : FuncId} (hk : ρ.f 166 = k) {T0 e0 : TypeId} (hT : ρ.t 72 = T0) (he0 : ρ.t 5 = e0) : FnOkO P k (sBWrite T0 e0) := by
  subst hk hT he0
  intro args H K h
  have e166 : ∀ args w, (callFunc (ρ.f 166) args).run P w = .ok (.enter (ρ.f 166) args) w := enters_of L.f166 (by kernel_rfl) rfl
  unfold sBWrite at h
  split at h
  · rename_i id s
    split at h
    · rename_i T e l hH
      cases hq : (Nat.beq T (ρ.t 72) && Nat.beq e (ρ.t 5)) with
      | false => simp only [hq, cond_false] at h
      | true =>
      simp only [hq, cond_true] at h
      cases hd : decide (l.length + s.length ≤ 140737488355328) with
      | false => simp only [hd, cond_false] at h
      | true =>
      simp only [hd, cond_true] at h
      refine ⟨_, _, h, fun K' h' => by simp only [sBWrite, hH, hq, hd, cond_true]; exact h', fun w g M cargs hv hr hG => .inr ⟨e166 _ _, ?_⟩⟩
      simp only [Bool.and_eq_true] at hq
      have h1 := Nat.eq_of_beq_eq_true hq.1
      have h2 := Nat.eq_of_beq_eq_true hq.2
      subst h1 h2
      have hd := of_decide_eq_true hd
      cases hv with
      | cons a r =>
      cases r with
      | cons a2 r =>
      cases r
      cases a2 with
      | str s' _ es hs =>
      cases a with
      | bptr _ b buf hg =>
      obtain ⟨p, v, hbk, hp, hown, hbuf, hnb, hMb, hMbuf, hnil0⟩ := hr.ob id _ _ hH hg
      have hsz : s'.size = s.length := by rw [← es, Array.length_toList]; rfl
      have hsc : Lib.strCells s' = Lib.byteCells s := by rw [← es]; rfl
      refine (bld_WriteString L X b p v (Lib.byteCells l) s' w hp hbk (by rw [Lib.byteCells_length]; exact hown) (by rw [hbuf]; exact hnb) (by rw [Lib.byteCells_length, hsz]; exact hd)).mono ?_
      rintro e w' ⟨he, v', k1, k2, k3, k4, k5, k6⟩
      rw [Lib.byteCells_length, hsz, hsc] at k2
      have k2' : w'.ownsRowF 0 (ρ.t 5) 1 v' (l ++ s).length (Lib.byteCells (l ++ s)) := by
        rw [List.length_append, show Lib.byteCells (l ++ s) = Lib.byteCells l ++ Lib.byteCells s by simp [Lib.byteCells]]
        exact k2
      obtain ⟨q1, q2, q3⟩ := bld_step hr hH hg (.inr rfl) hbuf hMb hMbuf k1 k2' k3 k4 k5 (fun e => by
        have e := List.append_eq_nil_iff.1 e
        exact k6 ⟨hnil0 e.1, by rw [hsz, e.2]; rfl⟩)
      refine ⟨_, he, _, M, ?_, q1, q2, q3⟩
      rw [hsz]
      refine .tuple _ _ (.cons (.int _ _ ?_) (.cons (.undef _) .nil))
      have e1 : IntKind.i64.min = -9223372036854775808 := rfl
      have e2 : IntKind.i64.max = 9223372036854775807 := rfl
      omega
    · exact h.elim
  · exact h.elim

theorem ok_BString0 (L : Lays.n169 P ρ) (X : Builder.Extra P ρ) {k : FuncId} (hk : ρ.f 169 = k) {T0 e0 : TypeId} (hT : ρ.t 72 = T0) (he0 : ρ.t 5 = e0) : FnOkO P k (sBString T0 e0) := by
  subst hk hT he0
  intro args H K h
  have e169 : ∀ args w, (callFunc (ρ.f 169) args).run P w = .ok (.enter (ρ.f 169) args) w := enters_of L.f169 (by kernel_rfl) rfl
  unfold sBString at h
  split at h
  · rename_i id
    split at h
    · rename_i T e l hH
      cases hq : (Nat.beq T (ρ.t 72) && Nat.beq e (ρ.t 5)) with
      | false => simp only [hq, cond_false] at h
      | true =>
      simp only [hq, cond_true] at h
      cases hd : decide (l.length ≤ 140737488355328) with
      | false => simp only [hd, cond_false] at h
      | true =>
      simp only [hd, cond_true] at h
      refine ⟨_, _, h, fun K' h' => by simp only [sBString, hH, hq, hd, cond_true]; exact h', fun w g M cargs hv hr hG => .inr ⟨e169 _ _, ?_⟩⟩
      simp only [Bool.and_eq_true] at hq
      have h1 := Nat.eq_of_beq_eq_true hq.1
      have h2 := Nat.eq_of_beq_eq_true hq.2
      subst h1 h2
      have hd := of_decide_eq_true hd
      cases hv with
      | cons a r =>
      cases r
      cases a with
      | bptr _ b buf hg =>
      obtain ⟨p, v, hbk, hp, hown, hbuf, hnb, hMb, hMbuf, hnil0⟩ := hr.ob id _ _ hH hg
      refine (bld_String L X b p v l w hbk hown (by rw [hbuf]; exact hnb)).mono ?_
      rintro e w' ⟨he, k1, k2, k5⟩
      obtain ⟨q1, q2, q3⟩ := bld_step hr hH hg hp hbuf hMb hMbuf k1 k2 (by rw [hbuf]; exact hnb) (.inl rfl) k5 hnil0
      rw [set_as_was hH] at q1 q3
      exact ⟨_, he, _, M, .str _ _ rfl (by omega), q1, q2, q3⟩
    · exact h.elim
  · exact h.elim

theorem ok_BLen0 (L : Lays.n170 P ρ) {k : FuncId} (hk : ρ.f 170 = k) {T0 e0 : TypeId} (hT : ρ.t 72 = T0) (he0 : ρ.t 5 = e0) : FnOkO P k (sBLen T0 e0) := by
  subst hk hT he0
  intro args H K h
  have e170 : ∀ args w, (callFunc (ρ.f 170) args).run P w = .ok (.enter (ρ.f 170) args) w := enters_of L.f170 (by kernel_rfl) rfl
  unfold sBLen at h
  split at h
  · rename_i id
    split at h
    · rename_i T e l hH
      cases hq : (Nat.beq T (ρ.t 72) && Nat.beq e (ρ.t 5)) with
      | false => simp only [hq, cond_false] at h
      | true =>
      simp only [hq, cond_true] at h
      cases hd : decide (l.length ≤ 140737488355328) with
      | false => simp only [hd, cond_false] at h
      | true =>
      simp only [hd, cond_true] at h
      refine ⟨_, _, h, fun K' h' => by simp only [sBLen, hH, hq, hd, cond_true]; exact h', fun w g M cargs hv hr hG => .inr ⟨e170 _ _, ?_⟩⟩
      simp only [Bool.and_eq_true] at hq
      have h1 := Nat.eq_of_beq_eq_true hq.1
      have h2 := Nat.eq_of_beq_eq_true hq.2
      subst h1 h2
      have hd := of_decide_eq_true hd
      cases hv with
      | cons a r =>
      cases r
      cases a with
      | bptr _ b buf hg =>
      obtain ⟨p, v, hbk, hp, hown, hbuf, hnb, hMb, hMbuf, hnil0⟩ := hr.ob id _ _ hH hg
      refine (bld_Len L b p v (Lib.byteCells l) w hbk (by rw [Lib.byteCells_length]; exact hown)).mono ?_
      rintro e w' ⟨he, rfl⟩
      rw [Lib.byteCells_length] at he
      refine ⟨_, he, g, M, .int _ _ ?_, hr, Ext.refl _ _, Base.start _ _ _ _⟩
      have e1 : IntKind.i64.min = -9223372036854775808 := rfl
      have e2 : IntKind.i64.max = 9223372036854775807 := rfl
      omega
    · exact h.elim
  · exact h.elim

theorem cond_and {b : Bool} {P Q : Prop} (h : cond b P False) (q : Q) : cond b (P ∧ Q) False := by cases b with | true => exact ⟨h, q⟩ | false => exact h.elim
theorem sBWrite_local (T0 e0 : TypeId) : LocalS (sBWrite T0 e0) := by
  intro v r H K h
  unfold sBWrite at h ⊢
  split at h
  · rename_i heq
    clear heq
    split at h
    · rename_i T e l hid
      cases hb : (Nat.beq T T0 && Nat.beq e e0) with
      | false => rw [hb] at h; exact h.elim
      | true =>
        rw [hb] at h
        rw [cond_true] at h ⊢
        exact cond_and h (.of (BoxesStay.set' fun c e => by rw [hid] at e; cases e))
    · exact h.elim
  · exact h.elim
theorem sBString_local (T0 e0 : TypeId) : LocalS (sBString T0 e0) := by
  intro v r H K h
  unfold sBString at h ⊢
  split at h
  · rename_i heq
    clear heq
    split at h
    · rename_i T e l hid
      cases hb : (Nat.beq T T0 && Nat.beq e e0) with
      | false => rw [hb] at h; exact h.elim
      | true =>
        rw [hb] at h
        rw [cond_true] at h ⊢
        exact cond_and h (.of fun _ => .refl _ _)
    · exact h.elim
  · exact h.elim
theorem sBLen_local (T0 e0 : TypeId) : LocalS (sBLen T0 e0) := by
  intro v r H K h
  unfold sBLen at h ⊢
  split at h
  · rename_i heq
    clear heq
    split at h
    · rename_i T e l hid
      cases hb : (Nat.beq T T0 && Nat.beq e e0) with
      | false => rw [hb] at h; exact h.elim
      | true =>
        rw [hb] at h
        rw [cond_true] at h ⊢
        exact cond_and h (.of fun _ => .refl _ _)
    · exact h.elim
  · exact h.elim
theorem ok_BWrite (L : Lays.n166 P ρ) (X : Builder.Extra P ρ) {k : FuncId} (hk : ρ.f 166 = k) {T0 e0 : TypeId} (hT : ρ.t 72 = T0) (he0 : ρ.t 5 = e0) : FnOkL P k (sBWrite T0 e0) := ⟨ok_BWrite0 L X hk hT he0, sBWrite_local _ _⟩
theorem ok_BString (L : Lays.n169 P ρ) (X : Builder.Extra P ρ) {k : FuncId} (hk : ρ.f 169 = k) {T0 e0 : TypeId} (hT : ρ.t 72 = T0) (he0 : ρ.t 5 = e0) : FnOkL P k (sBString T0 e0) := ⟨ok_BString0 L X hk hT he0, sBString_local _ _⟩
theorem ok_BLen (L : Lays.n170 P ρ) {k : FuncId} (hk : ρ.f 170 = k) {T0 e0 : TypeId} (hT : ρ.t 72 = T0) (he0 : ρ.t 5 = e0) : FnOkL P k (sBLen T0 e0) := ⟨ok_BLen0 L hk hT he0, sBLen_local _ _⟩
end
end Go.Ev
