/- Plain: what is in a list where a thing was put, and in merged lists. -/
import Derived.Test.YtmkomfhnomnbiaaPutP
set_option linter.unusedVariables false
set_option linter.unusedSimpArgs false
set_option maxRecDepth 100000
namespace Go.Proofs.Ytmkomfhnomnbiaa
open Go.Ev

theorem up_name {ts : List ThingD} (h : upB ts = true) {x y : ThingD} (hx : x ∈ ts) (hy : y ∈ ts) (e : x.1 = y.1) : x = y := by
  obtain ⟨i, hi, rfl⟩ := List.mem_iff_getElem.1 hx
  obtain ⟨j, hj, rfl⟩ := List.mem_iff_getElem.1 hy
  have hr := up_rising h
  rcases Nat.lt_trichotomy i j with c | c | c
  · have := rising_lt hr j i hj c
    rw [e, less_irrefl] at this; cases this
  · subst c; rfl
  · have := rising_lt hr i j hi c
    rw [e, less_irrefl] at this; cases this
theorem find_in {ts : List ThingD} (h : upB ts = true) {x : ThingD} (hx : x ∈ ts) : findB ts x.1 = true ∧ findN ts x.1 < ts.length ∧ ts[findN ts x.1]? = some x := by
  obtain ⟨j, hj, rfl⟩ := List.mem_iff_getElem.1 hx
  have hr := up_rising h
  obtain ⟨c1, c2, c3⟩ := find_cut hr (ts[j]'hj).1
  have h1 : findN ts (ts[j]'hj).1 ≤ j := by
    rcases Nat.lt_or_ge j (findN ts (ts[j]'hj).1) with c | c
    · have := c2 j hj c
      rw [less_irrefl] at this; cases this
    · exact c
  have h2 : findN ts (ts[j]'hj).1 = j := by
    rcases Nat.lt_or_ge (findN ts (ts[j]'hj).1) j with c | c
    · have a := c3 _ (by omega) (Nat.le_refl _)
      rw [rising_lt hr j _ hj c] at a; cases a
    · omega
  refine ⟨?_, by omega, by rw [h2]; exact List.getElem?_eq_getElem hj⟩
  unfold findB
  rw [h2]
  unfold cmpAt
  rw [get_lt hj, d_t hj, cmp_zero, beq_self_eq_true]
  rfl
theorem find_true {ts : List ThingD} {s : Str} (h : findB ts s = true) : ∃ x ∈ ts, x.1 = s := by
  unfold findB at h
  simp only [Bool.and_eq_true, decide_eq_true_eq] at h
  obtain ⟨e1, e2⟩ := h
  have hc : cmpAt ts s (findN ts s) = cmpB (ts[findN ts s]'e1).1 s := by unfold cmpAt; rw [get_lt e1]
  rw [hc] at e2
  refine ⟨_, List.getElem_mem e1, ?_⟩
  have := cmp_zero (ts[findN ts s]'e1).1 s
  rw [decide_eq_true e2] at this
  simpa using this.symm
theorem find_iff {ts : List ThingD} (h : upB ts = true) (s : Str) : findB ts s = true ↔ ∃ x ∈ ts, x.1 = s :=
  ⟨find_true, fun ⟨x, hx, e⟩ => by rw [← e]; exact (find_in h hx).1⟩
theorem find_false {ts : List ThingD} {s : Str} (h : ∀ x ∈ ts, x.1 ≠ s) : findB ts s = false := by
  cases e : findB ts s with
  | false => rfl
  | true => obtain ⟨x, hx, e2⟩ := find_true e; exact absurd e2 (h x hx)

theorem put_mem {ts : List ThingD} {t x : ThingD} : x ∈ putF ts t ↔ x = t ∨ (x ∈ ts ∧ x.1 ≠ t.1) := by
  unfold putF
  rw [List.mem_append, List.mem_cons, List.mem_filter, List.mem_filter]
  constructor
  · rintro (⟨h1, h2⟩ | rfl | ⟨h1, h2⟩)
    · refine .inr ⟨h1, fun e => ?_⟩
      have h2 : Op.bytesLess x.1 t.1 = true := h2
      rw [e, less_irrefl] at h2; cases h2
    · exact .inl rfl
    · refine .inr ⟨h1, fun e => ?_⟩
      have h2 : Op.bytesLess t.1 x.1 = true := h2
      rw [e, less_irrefl] at h2; cases h2
  · rintro (rfl | ⟨h1, h2⟩)
    · exact .inr (.inl rfl)
    · cases e : Op.bytesLess x.1 t.1 with
      | true => exact .inl ⟨h1, e⟩
      | false => exact .inr (.inr ⟨h1, less_tri e (beq_eq_false_iff_ne.2 h2)⟩)
theorem put_len {ts : List ThingD} (h : upB ts = true) (t : ThingD) : (putF ts t).length = ts.length + (bif findB ts t.1 then 0 else 1) := by
  obtain ⟨f1, f2⟩ := putF_find t h
  cases hb : findB ts t.1 with
  | true => rw [← (f1 hb).2, List.length_set]; rfl
  | false =>
    obtain ⟨e1, e2⟩ := f2 hb
    rw [← e2]
    unfold insL
    rw [List.length_append, List.length_cons, List.length_take, List.length_drop, Nat.min_eq_left e1]
    show _ = ts.length + 1
    omega
theorem merge_mem : ∀ {us ts : List ThingD} {x : ThingD}, us.Pairwise (fun a b => a.1 ≠ b.1) → (x ∈ mergeL ts us ↔ x ∈ us ∨ (x ∈ ts ∧ ∀ u ∈ us, x.1 ≠ u.1))
  | [], ts, x, _ => by simp [mergeL]
  | u :: us, ts, x, h => by
    obtain ⟨h1, h2⟩ := List.pairwise_cons.1 h
    have ih := merge_mem (us := us) (ts := putF ts u) (x := x) h2
    have e : mergeL ts (u :: us) = mergeL (putF ts u) us := rfl
    rw [e, ih, put_mem, List.mem_cons]
    constructor
    · rintro (a | ⟨rfl | ⟨a, b⟩, c⟩)
      · exact .inl (.inr a)
      · exact .inl (.inl rfl)
      · refine .inr ⟨a, fun v hv => ?_⟩
        rcases List.mem_cons.1 hv with rfl | hv
        · exact b
        · exact c v hv
    · rintro ((rfl | a) | ⟨a, b⟩)
      · exact .inr ⟨.inl rfl, fun v hv => h1 v hv⟩
      · exact .inl a
      · exact .inr ⟨.inr ⟨a, b u (by simp)⟩, fun v hv => b v (by simp [hv])⟩
theorem up_names {us : List ThingD} (h : upB us = true) : us.Pairwise (fun a b => a.1 ≠ b.1) :=
  ((up_iff.1 h).2).imp fun {a b} hl e => by rw [e, less_irrefl] at hl; cases hl
def newL (ts us : List ThingD) : List ThingD := us.filter (fun u => !findB ts u.1)
theorem merge_len : ∀ {us ts : List ThingD}, upB ts = true → us.Pairwise (fun a b => a.1 ≠ b.1) → (∀ u ∈ us, thingB u = true) → (mergeL ts us).length = ts.length + (newL ts us).length
  | [], ts, _, _, _ => rfl
  | u :: us, ts, h, hp, hv => by
    obtain ⟨h1, h2⟩ := List.pairwise_cons.1 hp
    have hu := putF_up h (hv u (by simp))
    have ih := merge_len (us := us) hu h2 fun v hv' => hv v (by simp [hv'])
    have e : mergeL ts (u :: us) = mergeL (putF ts u) us := rfl
    have en : newL (putF ts u) us = newL ts us := by
      unfold newL
      refine List.filter_congr fun v hv' => ?_
      have hne : u.1 ≠ v.1 := h1 v hv'
      congr 1
      rw [Bool.eq_iff_iff, find_iff hu, find_iff h]
      constructor
      · rintro ⟨x, hx, ex⟩
        rcases put_mem.1 hx with rfl | ⟨a, _⟩
        · exact absurd ex hne
        · exact ⟨x, a, ex⟩
      · rintro ⟨x, hx, ex⟩
        exact ⟨x, put_mem.2 (.inr ⟨hx, fun e2 => hne (e2.symm.trans ex)⟩), ex⟩
    rw [e, ih, en, put_len h]
    unfold newL
    rw [List.filter_cons]
    cases findB ts u.1 with
    | true => simp
    | false => simp; omega

end Go.Proofs.Ytmkomfhnomnbiaa
