/- Plain: a thing that is put into a list that rises. -/
import Derived.Test.YtmkomfhnomnbiaaScn
import Derived.Test.YtmkomfhnomnbiaaEvIns
set_option linter.unusedVariables false
set_option linter.unusedSimpArgs false
set_option maxRecDepth 100000
namespace Go.Proofs.Ytmkomfhnomnbiaa
open Go.Ev

theorem less_asymm {a b : Str} (h : Op.bytesLess a b = true) : Op.bytesLess b a = false := by
  cases e : Op.bytesLess b a with
  | false => rfl
  | true => have := less_trans h e; rw [less_irrefl] at this; cases this
theorem less_tri {a b : Str} (h1 : Op.bytesLess a b = false) (h2 : (a == b) = false) : Op.bytesLess b a = true := by
  refine cmp_tri _ _ (fun e => ?_) (fun e => ?_)
  · rw [← cmp_less, decide_eq_true e] at h1; cases h1
  · rw [← cmp_zero, decide_eq_true e] at h2; cases h2

def upB0 (ts : List ThingD) : Bool := thingsUp ts
--B upB List ThingD → Bool
def upB (ts : List ThingD) : Bool := upB0 ts
def lessT (s : Str) (x : ThingD) : Bool := Op.bytesLess x.1 s
def moreT (s : Str) (x : ThingD) : Bool := Op.bytesLess s x.1
--B putF List ThingD → ThingD → List ThingD
def putF (ts : List ThingD) (t : ThingD) : List ThingD := ts.filter (lessT t.1) ++ t :: ts.filter (moreT t.1)

theorem up_rising {ts : List ThingD} (h : upB ts = true) : Rising ts := by
  intro j hj h0
  have := List.all_eq_true.1 h j (by simpa using hj)
  rw [thingAt_eq hj] at this
  simp only [Bool.and_eq_true] at this
  have h2 := this.2
  rw [beq_eq_false_iff_ne.2 (show j ≠ 0 by omega), Bool.false_or, get_lt (show j - 1 < ts.length by omega)] at h2
  exact h2
theorem up_iff {ts : List ThingD} : upB ts = true ↔ (∀ t ∈ ts, thingB t = true) ∧ ts.Pairwise (fun a b => Op.bytesLess a.1 b.1 = true) := by
  constructor
  · intro h
    have hr := up_rising h
    refine ⟨fun t ht => ?_, ?_⟩
    · obtain ⟨j, hj, rfl⟩ := List.mem_iff_getElem.1 ht
      have := List.all_eq_true.1 h j (by simpa using hj)
      rw [thingAt_eq hj] at this
      simp only [Bool.and_eq_true] at this
      exact this.1
    · rw [List.pairwise_iff_getElem]
      intro i j hi hj hij
      exact rising_lt hr j i hj hij
  · rintro ⟨h1, h2⟩
    refine things_yes fun j hj => ?_
    rw [thingAt_eq hj, h1 _ (List.getElem_mem hj), Bool.true_and]
    by_cases h0 : j = 0
    · subst h0; rfl
    · rw [beq_eq_false_iff_ne.2 h0, Bool.false_or, get_lt (show j - 1 < ts.length by omega)]
      rw [List.pairwise_iff_getElem] at h2
      exact h2 (j - 1) j (by omega) hj (by omega)
theorem scene_up {ts : List ThingD} : sceneB ts = (upB ts && decide (ts.length ≤ 8)) := rfl

theorem putF_mem {ts : List ThingD} {t x : ThingD} (h : x ∈ putF ts t) : x ∈ ts ∨ x = t := by
  unfold putF at h
  rcases List.mem_append.1 h with h | h
  · exact .inl (List.mem_filter.1 h).1
  · rcases List.mem_cons.1 h with h | h
    · exact .inr h
    · exact .inl (List.mem_filter.1 h).1
theorem putF_up {ts : List ThingD} {t : ThingD} (h : upB ts = true) (ht : thingB t = true) : upB (putF ts t) = true := by
  obtain ⟨h1, h2⟩ := up_iff.1 h
  refine up_iff.2 ⟨fun x hx => ?_, ?_⟩
  · rcases putF_mem hx with h | rfl
    · exact h1 _ h
    · exact ht
  · unfold putF
    refine List.pairwise_append.2 ⟨h2.filter _, List.pairwise_cons.2 ⟨fun y hy => (List.mem_filter.1 hy).2, h2.filter _⟩, fun a ha b hb => ?_⟩
    have la : Op.bytesLess a.1 t.1 = true := (List.mem_filter.1 ha).2
    rcases List.mem_cons.1 hb with rfl | hb
    · exact la
    · exact less_trans la (List.mem_filter.1 hb).2
theorem putF_len (ts : List ThingD) (t : ThingD) : (putF ts t).length ≤ ts.length + 1 := by
  unfold putF
  rw [List.length_append, List.length_cons]
  have h1 : ∀ xs : List ThingD, (xs.filter (lessT t.1)).length + (xs.filter (moreT t.1)).length ≤ xs.length := by
    intro xs
    induction xs with
    | nil => exact Nat.le_refl _
    | cons x r ih =>
      rw [List.filter_cons, List.filter_cons]
      have hx : lessT t.1 x = true → moreT t.1 x = false := fun e => less_asymm e
      cases e1 : lessT t.1 x with
      | true => rw [hx e1]; simp only [if_true, List.length_cons, Bool.false_eq_true, if_false]; omega
      | false => cases e2 : moreT t.1 x <;> simp only [if_true, List.length_cons, Bool.false_eq_true, if_false] <;> omega
  have := h1 ts
  omega

/-! step by step -/
def putStep (t : ThingD) (q : List ThingD × Bool) (x : ThingD) : List ThingD × Bool :=
  bif !q.2 && !Op.bytesLess x.1 t.1 then ((bif !(x.1 == t.1) then q.1 ++ [t] ++ [x] else q.1 ++ [t]), true) else ((bif !(x.1 == t.1) then q.1 ++ [x] else q.1), q.2)
def putOut (t : ThingD) (q : List ThingD × Bool) : List ThingD := bif !q.2 then q.1 ++ [t] else q.1
theorem put_more (t : ThingD) : ∀ (r : List ThingD) (out : List ThingD), (∀ x ∈ r, moreT t.1 x = true) → r.foldl (putStep t) (out, true) = (out ++ r, true)
  | [], out, _ => by simp
  | x :: r, out, h => by
    have hx : Op.bytesLess t.1 x.1 = true := h x (by simp)
    have hne : (x.1 == t.1) = false := beq_eq_false_iff_ne.2 fun e => by rw [e, less_irrefl] at hx; cases hx
    have hs : putStep t (out, true) x = (out ++ [x], true) := by unfold putStep; rw [hne]; rfl
    rw [List.foldl_cons, hs, put_more t r _ fun y hy => h y (by simp [hy]), List.append_assoc]
    rfl
theorem put_fold (t : ThingD) : ∀ (ts : List ThingD) (out : List ThingD), ts.Pairwise (fun a b => Op.bytesLess a.1 b.1 = true) → putOut t (ts.foldl (putStep t) (out, false)) = out ++ putF ts t
  | [], out, _ => rfl
  | x :: r, out, h => by
    obtain ⟨h1, h2⟩ := List.pairwise_cons.1 h
    rw [List.foldl_cons]
    cases e : Op.bytesLess x.1 t.1 with
    | true =>
      have hne : (x.1 == t.1) = false := beq_eq_false_iff_ne.2 fun e' => by rw [e', less_irrefl] at e; cases e
      have hs : putStep t (out, false) x = (out ++ [x], false) := by unfold putStep; rw [hne, e]; rfl
      rw [hs, put_fold t r _ h2, List.append_assoc]
      congr 1
      unfold putF
      rw [List.filter_cons, List.filter_cons, show lessT t.1 x = true from e, show moreT t.1 x = false from less_asymm e]
      rfl
    | false =>
      have hr : ∀ y ∈ r, moreT t.1 y = true := fun y hy => by
        cases hxt : (x.1 == t.1) with
        | true =>
          have : x.1 = t.1 := by simpa using hxt
          show Op.bytesLess t.1 y.1 = true
          rw [← this]; exact h1 y hy
        | false => exact less_trans (less_tri e hxt) (h1 y hy)
      have f1 : r.filter (lessT t.1) = [] := List.filter_eq_nil_iff.2 fun y hy => by
        have := less_asymm (hr y hy)
        show ¬ Op.bytesLess y.1 t.1 = true
        rw [this]; decide
      have f2 : r.filter (moreT t.1) = r := List.filter_eq_self.2 hr
      have hl : lessT t.1 x = false := e
      cases hxt : (x.1 == t.1) with
      | true =>
        have hm : moreT t.1 x = false := by
          have : x.1 = t.1 := by simpa using hxt
          show Op.bytesLess t.1 x.1 = false
          rw [this]; exact less_irrefl _
        have hs : putStep t (out, false) x = (out ++ [t], true) := by unfold putStep; rw [hxt, e]; rfl
        rw [hs, put_more t r _ hr]
        unfold putF putOut
        rw [List.filter_cons, List.filter_cons, hl, hm, f1, f2]
        simp
      | false =>
        have hm : moreT t.1 x = true := less_tri e hxt
        have hs : putStep t (out, false) x = (out ++ [t] ++ [x], true) := by unfold putStep; rw [hxt, e]; rfl
        rw [hs, put_more t r _ hr]
        unfold putF putOut
        rw [List.filter_cons, List.filter_cons, hl, hm, f1, f2]
        simp
theorem putStep_len (t : ThingD) (q : List ThingD × Bool) (x : ThingD) : (putStep t q x).1.length ≤ q.1.length + 2 := by
  unfold putStep
  cases (!q.2 && !Op.bytesLess x.1 t.1) <;> cases (!(x.1 == t.1)) <;> simp
theorem foldStep_len (t : ThingD) : ∀ (r : List ThingD) (q : List ThingD × Bool), (r.foldl (putStep t) q).1.length ≤ q.1.length + 2 * r.length
  | [], q => by simp
  | x :: r, q => by
    rw [List.foldl_cons]
    have h1 := foldStep_len t r (putStep t q x)
    have h2 := putStep_len t q x
    rw [List.length_cons]
    omega

/-! by search -/
theorem filter_split {α : Type} (p : α → Bool) (xs : List α) (n : Nat) (hn : n ≤ xs.length) (h1 : ∀ a (h : a < xs.length), a < n → p (xs[a]'h) = true) (h2 : ∀ a (h : a < xs.length), n ≤ a → p (xs[a]'h) = false) : xs.filter p = xs.take n := by
  conv => lhs; rw [← List.take_append_drop n xs]
  rw [List.filter_append]
  have e1 : (xs.take n).filter p = xs.take n := List.filter_eq_self.2 fun x hx => by
    obtain ⟨j, hj, rfl⟩ := List.mem_iff_getElem.1 hx
    rw [List.length_take] at hj
    rw [List.getElem_take]
    exact h1 j (by omega) (by omega)
  have e2 : (xs.drop n).filter p = [] := List.filter_eq_nil_iff.2 fun x hx => by
    obtain ⟨j, hj, rfl⟩ := List.mem_iff_getElem.1 hx
    rw [List.length_drop] at hj
    rw [List.getElem_drop, h2 (n + j) (by omega) (by omega)]
    decide
  rw [e1, e2, List.append_nil]
theorem filter_split2 {α : Type} (p : α → Bool) (xs : List α) (n : Nat) (hn : n ≤ xs.length) (h1 : ∀ a (h : a < xs.length), a < n → p (xs[a]'h) = false) (h2 : ∀ a (h : a < xs.length), n ≤ a → p (xs[a]'h) = true) : xs.filter p = xs.drop n := by
  conv => lhs; rw [← List.take_append_drop n xs]
  rw [List.filter_append]
  have e1 : (xs.take n).filter p = [] := List.filter_eq_nil_iff.2 fun x hx => by
    obtain ⟨j, hj, rfl⟩ := List.mem_iff_getElem.1 hx
    rw [List.length_take] at hj
    rw [List.getElem_take, h1 j (by omega) (by omega)]
    decide
  have e2 : (xs.drop n).filter p = xs.drop n := List.filter_eq_self.2 fun x hx => by
    obtain ⟨j, hj, rfl⟩ := List.mem_iff_getElem.1 hx
    rw [List.length_drop] at hj
    rw [List.getElem_drop]
    exact h2 (n + j) (by omega) (by omega)
  rw [e1, e2, List.nil_append]
theorem putF_find {ts : List ThingD} (t : ThingD) (h : upB ts = true) :
    (findB ts t.1 = true → findN ts t.1 < ts.length ∧ ts.set (findN ts t.1) t = putF ts t) ∧ (findB ts t.1 = false → findN ts t.1 ≤ ts.length ∧ insL ts (findN ts t.1) t = putF ts t) := by
  have hr := up_rising h
  obtain ⟨c1, c2, c3⟩ := find_cut hr t.1
  have fl : ts.filter (lessT t.1) = ts.take (findN ts t.1) := filter_split _ _ _ c1 (fun a ha hl => c2 a ha hl) (fun a ha hl => c3 a ha hl)
  refine ⟨fun e => ?_, fun e => ?_⟩
  · unfold findB at e
    simp only [Bool.and_eq_true, decide_eq_true_eq] at e
    obtain ⟨e1, e2⟩ := e
    have hc : cmpAt ts t.1 (findN ts t.1) = cmpB (ts[findN ts t.1]'e1).1 t.1 := by unfold cmpAt; rw [get_lt e1]
    rw [hc] at e2
    have hn : (ts[findN ts t.1]'e1).1 = t.1 := by
      have := cmp_zero (ts[findN ts t.1]'e1).1 t.1
      rw [decide_eq_true e2] at this
      simpa using this.symm
    refine ⟨e1, ?_⟩
    have fm : ts.filter (moreT t.1) = ts.drop (findN ts t.1 + 1) := by
      refine filter_split2 _ _ _ e1 (fun a ha hl => ?_) (fun a ha hl => ?_)
      · show Op.bytesLess t.1 _ = false
        by_cases hae : a = findN ts t.1
        · subst hae; rw [hn]; exact less_irrefl _
        · exact less_asymm (c2 a ha (by omega))
      · show Op.bytesLess t.1 _ = true
        rw [← hn]
        exact rising_lt hr a (findN ts t.1) ha (by omega)
    unfold putF
    rw [fl, fm]
    rw [List.set_eq_take_append_cons_drop, if_pos e1]
  · refine ⟨c1, ?_⟩
    have fm : ts.filter (moreT t.1) = ts.drop (findN ts t.1) := by
      refine filter_split2 _ _ _ c1 (fun a ha hl => less_asymm (c2 a ha hl)) (fun a ha hl => ?_)
      show Op.bytesLess t.1 _ = true
      have hlt : findN ts t.1 < ts.length := by omega
      unfold findB at e
      rw [decide_eq_true hlt, Bool.true_and] at e
      have hc : cmpAt ts t.1 (findN ts t.1) = cmpB (ts[findN ts t.1]'hlt).1 t.1 := by unfold cmpAt; rw [get_lt hlt]
      rw [hc, cmp_zero] at e
      have h0 := less_tri (c3 _ hlt (Nat.le_refl _)) e
      by_cases hae : a = findN ts t.1
      · subst hae; exact h0
      · exact less_trans h0 (rising_lt hr a (findN ts t.1) ha (by omega))
    unfold putF insL
    rw [fl, fm]

--B putOk List ThingD → ThingD → Bool
def putOk (ts : List ThingD) (t : ThingD) : Bool := sceneB ts && (thingB t && sceneB (putF ts t))
--B putR List ThingD → ThingD → List ThingD
def putR (ts : List ThingD) (t : ThingD) : List ThingD := bif putOk ts t then putF ts t else []

--B mergeL List ThingD → List ThingD → List ThingD
def mergeL (ts us : List ThingD) : List ThingD := us.foldl putF ts
--B mergeOk List ThingD → List ThingD → Bool
def mergeOk (ts us : List ThingD) : Bool := sceneB ts && (sceneB us && sceneB (mergeL ts us))
--B mergeR List ThingD → List ThingD → List ThingD
def mergeR (ts us : List ThingD) : List ThingD := bif mergeOk ts us then mergeL ts us else []
theorem merge_take {ts us : List ThingD} {i : Nat} (hi : i < us.length) : mergeL ts (us.take (i + 1)) = putF (mergeL ts (us.take i)) (us[i]'hi) := by
  unfold mergeL
  rw [take_one hi, List.foldl_append]
  rfl
theorem merge_up : ∀ {us ts : List ThingD}, upB ts = true → (∀ u ∈ us, thingB u = true) → upB (mergeL ts us) = true ∧ (mergeL ts us).length ≤ ts.length + us.length
  | [], ts, h, _ => ⟨h, Nat.le_refl _⟩
  | u :: us, ts, h, hu => by
    have h1 := putF_up h (hu u (by simp))
    have h2 := merge_up (us := us) h1 fun v hv => hu v (by simp [hv])
    have h3 := putF_len ts u
    refine ⟨h2.1, ?_⟩
    have h4 := h2.2
    rw [List.length_cons]
    show (mergeL (putF ts u) us).length ≤ _
    omega

/-! valid things are small -/
theorem vt_shape {s : ShapeD} (h : validS s = true) : 1 ≤ s.length ∧ s.length ≤ 16 ∧ ∀ x ∈ s, x.2.2.2.length ≤ 4 := by
  have h0 := h
  unfold validS at h
  simp only [Bool.and_eq_true] at h
  have := inR_iff.1 h.1
  refine ⟨by omega, by omega, fun x hx => ?_⟩
  obtain ⟨i, hi, rfl⟩ := List.mem_iff_getElem.1 hx
  cases hn : nodeB i (s[i]'hi) with
  | false => rw [valid_no hi hn] at h0; cases h0
  | true =>
    unfold nodeB numsB at hn
    simp only [Bool.and_eq_true, beq_iff_eq] at hn
    have hk : kindN (s[i]'hi).1 ≤ 4 := by
      cases h : isK (s[i]'hi).1 with
      | false => unfold kindN; rw [kindV_no h]; decide
      | true =>
        rcases kinds h with r | r | r | r | r | r | r | r | r | r | r | r | r | r | r | r | r <;> rw [r] <;> decide
    omega
theorem vt_sum {α : Type} {w : α → Nat} {m : Nat} : ∀ {xs : List α}, (∀ x ∈ xs, w x ≤ m) → sumW w xs ≤ m * xs.length
  | [], _ => Nat.zero_le _
  | x :: s, h => by
    have h1 := h x (by simp)
    have h2 := vt_sum (xs := s) fun y hy => h y (by simp [hy])
    simp only [sumW, List.map_cons, List.sum_cons, List.length_cons] at *
    rw [Nat.mul_add]
    omega
theorem thing_fit {t : ThingD} (h : thingB t = true) : fitT t = true ∧ (!t.2.2.isEmpty) = true ∧ wT t ≤ 200 := by
  have h0 := h
  unfold thingB keysB at h
  simp only [Bool.and_eq_true] at h
  obtain ⟨_, h2, h3, _⟩ := h
  have hk := inR_iff.1 h3
  obtain ⟨s1, s2, s3⟩ := vt_shape h2
  refine ⟨?_, thingB_key1 h0, ?_⟩
  · unfold fitT fitS fitN
    simp only [Bool.and_eq_true, decide_eq_true_eq, List.all_eq_true]
    exact ⟨⟨by omega, fun x hx => by have := s3 x hx; omega⟩, by omega⟩
  · have e1 := vt_sum (w := wN) (m := 7) (xs := t.2.1) fun x hx => by have := s3 x hx; unfold wN; omega
    have e2 := vt_sum (w := wK) (m := 4) (xs := t.2.2) fun x hx => by unfold wK; omega
    unfold wT
    omega
theorem up_fit {ts : List ThingD} (h : upB ts = true) (hl : ts.length ≤ 1048576) : fitC ts = true := by
  unfold fitC
  simp only [Bool.and_eq_true, decide_eq_true_eq]
  exact ⟨hl, List.all_eq_true.2 fun t ht => (thing_fit ((up_iff.1 h).1 t ht)).1⟩
theorem scene_sum {ts : List ThingD} (h : sceneB ts = true) : sumW wT ts ≤ 1600 := by
  rw [scene_up] at h
  simp only [Bool.and_eq_true, decide_eq_true_eq] at h
  have := vt_sum (w := wT) (m := 200) (xs := ts) fun t ht => (thing_fit ((up_iff.1 h.1).1 t ht)).2.2
  omega

end Go.Proofs.Ytmkomfhnomnbiaa
