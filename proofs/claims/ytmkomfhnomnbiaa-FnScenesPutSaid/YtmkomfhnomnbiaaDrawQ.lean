/- Plain: what the laws draw: numbers, nodes, shapes, keys, things, scenes; all are valid. -/
import Derived.Test.YtmkomfhnomnbiaaSrc
import Derived.Test.YtmkomfhnomnbiaaDrawP
import Derived.Test.YtmkomfhnomnbiaaPutM
set_option linter.unusedVariables false
set_option linter.unusedSimpArgs false
set_option maxRecDepth 100000
namespace Go.Proofs.Ytmkomfhnomnbiaa
open Go.Ev

/-! how far a source is read -/
--B inS Int → SrcD → Bool
def inS (n : Int) (s : SrcD) : Bool := decide (0 ≤ s.2.1) && decide (s.2.1 ≤ n)
theorem inS_iff {n : Int} {s : SrcD} : inS n s = true ↔ 0 ≤ s.2.1 ∧ s.2.1 ≤ n := by unfold inS; simp
theorem inS_src {n : Int} {s : SrcD} (h : inS n s = true) (hn : n ≤ 1152921504606846976) (L : Nat) (hL : 1 ≤ L) : srcIn L s = true := by
  rw [inS_iff] at h
  rw [srcIn_iff]
  have : (1152921504606846976 : Int) ≤ (L : Int) * 1152921504606846976 := by omega
  omega
structure Far (s t : SrcD) (n : Int) : Prop where
  b : t.1 = s.1
  lo : s.2.1 ≤ t.2.1
  hi : t.2.1 ≤ s.2.1 + n
theorem Far.refl (s : SrcD) : Far s s 0 := ⟨rfl, Int.le_refl _, by omega⟩
theorem Far.trans {s t u : SrcD} {n m : Int} (h : Far s t n) (h' : Far t u m) : Far s u (n + m) := ⟨h'.b.trans h.b, by have := h.lo; have := h'.lo; omega, by have := h.hi; have := h'.hi; omega⟩
theorem Far.mono {s t : SrcD} {n m : Int} (h : Far s t n) (hm : n ≤ m) : Far s t m := ⟨h.b, h.lo, by have := h.hi; omega⟩
theorem Far.ok {s t : SrcD} {n k m : Int} (h : Far s t n) (hs : inS k s = true) (hm : k + n ≤ m) : inS m t = true := by
  rw [inS_iff] at hs ⊢
  have := h.lo; have := h.hi; omega
theorem Far.bytes {s t : SrcD} {n : Int} (h : Far s t n) (hb : bytes s.1) : bytes t.1 := by rw [h.b]; exact hb
theorem far_pick (s : SrcD) (n : Int) : Far s (pickS s n) 2 := ⟨pickS_1 s n, (pickS_at s n).1, (pickS_at s n).2⟩

/-! numbers -/
--B smallV SrcD → Nat
def smallV (s : SrcD) : Nat := quartV (pickV s 33 - 16)
--B smallS SrcD → SrcD
def smallS (s : SrcD) : SrcD := pickS s 33
theorem far_small (s : SrcD) : Far s (smallS s) 2 := far_pick s 33
def sizeK (k : Int) : Bool := kindS k == 1
def posK (k : Int) : Bool := kindS k == 2
--B nuV Int → SrcD → Nat
def nuV (k : Int) (s : SrcD) : Nat := bif sizeK k then sizeV (smallV s) else bif posK k then quartV (1 + pickV (smallS s) 8) else bif k == 12 then sixtV (pickV (smallS s) 17 - 8) else smallV s
--B nuS Int → SrcD → SrcD
def nuS (k : Int) (s : SrcD) : SrcD := bif sizeK k then smallS s else bif posK k then pickS (smallS s) 8 else bif k == 12 then pickS (smallS s) 17 else smallS s
theorem far_nu (k : Int) (s : SrcD) : Far s (nuS k s) 4 := by
  unfold nuS
  cases sizeK k with
  | true => exact (far_small s).mono (by omega)
  | false =>
    cases posK k with
    | true => exact (far_small s).trans (far_pick _ 8)
    | false =>
      cases k == 12 with
      | true => exact (far_small s).trans (far_pick _ 17)
      | false => exact (far_small s).mono (by omega)
theorem nu_ok {k : Int} (hk : isK k = true) {s : SrcD} (hb : bytes s.1) : numB k (nuV k s) = true := by
  have b1 := (far_small s).bytes hb
  obtain ⟨a1, a2, a3⟩ := small_fin (pickV_range (s := s) hb (n := 33) (by omega))
  obtain ⟨p1, p2⟩ := pos_fin (pickV_range (s := smallS s) b1 (n := 8) (by omega))
  have t1 := turn_fin (pickV_range (s := smallS s) b1 (n := 17) (by omega))
  unfold numB nuV
  cases h1 : sizeK k with
  | true =>
    have e : kindS k = 1 := by unfold sizeK at h1; simpa using h1
    rw [cond_true, e]
    unfold sgnB smallV
    rw [a2, a3]
    rfl
  | false =>
    cases h2 : posK k with
    | true =>
      have e : kindS k = 2 := by unfold posK at h2; simpa using h2
      rw [cond_true, cond_false, e]
      unfold sgnB
      rw [p1, p2]
      rfl
    | false =>
      have hs : ∀ x, sgnB (kindS k) x = false := fun x => by
        unfold sgnB
        unfold sizeK at h1
        unfold posK at h2
        rw [h1, h2]
        rfl
      rw [hs, cond_false, cond_false]
      cases k == 12 with
      | true => rw [cond_true, t1]; rfl
      | false =>
        rw [cond_false]
        unfold smallV
        rw [a1]; rfl
def nusL : Int → Nat → SrcD → List Nat
  | _, 0, _ => []
  | k, n + 1, s => nuV k s :: nusL k n (nuS k s)
def nusN : Int → Nat → SrcD → SrcD
  | _, 0, s => s
  | k, n + 1, s => nusN k n (nuS k s)
--B numsV Int → SrcD → List Nat
def numsV (k : Int) (s : SrcD) : List Nat := nusL k (kindN k).toNat s
--B numsS Int → SrcD → SrcD
def numsS (k : Int) (s : SrcD) : SrcD := nusN k (kindN k).toNat s
theorem far_nus (k : Int) : ∀ (n : Nat) (s : SrcD), Far s (nusN k n s) (4 * n)
  | 0, s => (Far.refl s).mono (by omega)
  | n + 1, s => ((far_nu k s).trans (far_nus k n (nuS k s))).mono (by omega)
theorem nus_len (k : Int) : ∀ (n : Nat) (s : SrcD), (nusL k n s).length = n
  | 0, _ => rfl
  | n + 1, s => by rw [nusL, List.length_cons, nus_len k n]
theorem nus_ok {k : Int} (hk : isK k = true) : ∀ (n : Nat) {s : SrcD}, bytes s.1 → ∀ x ∈ nusL k n s, numB k x = true
  | 0, s, _, x, h => by cases h
  | n + 1, s, hb, x, h => by
    rw [nusL] at h
    rcases List.mem_cons.1 h with rfl | h
    · exact nu_ok hk hb
    · exact nus_ok hk n ((far_nu k s).bytes hb) x h
theorem kindN_ok (k : Int) : 0 ≤ kindN k ∧ kindN k ≤ 4 := by
  cases h : isK k with
  | false => unfold kindN; rw [kindV_no h]; decide
  | true =>
    rcases kinds h with r | r | r | r | r | r | r | r | r | r | r | r | r | r | r | r | r <;> subst r <;> decide
theorem far_nums (k : Int) (s : SrcD) : Far s (numsS k s) 16 := (far_nus k _ s).mono (by have := kindN_ok k; omega)
theorem nums_ok {k : Int} (hk : isK k = true) {s : SrcD} (hb : bytes s.1) : numsB k (numsV k s) = true := by
  have := kindN_ok k
  exact nums_of hk (by unfold numsV; rw [nus_len]; omega) (nus_ok hk _ hb)

/-! nodes -/
def dn2 (f : List Int) (s : SrcD) : Bool := decide (2 ≤ f.length) && pickV (pickS s 5) 2 == 0
def dnS1 (f : List Int) (s : SrcD) : SrcD := bif decide (2 ≤ f.length) then pickS (pickS s 5) 2 else pickS s 5
def dn1 (f : List Int) (s : SrcD) : Bool := decide (1 ≤ f.length) && pickV (dnS1 f s) 2 == 0
def dnS2 (f : List Int) (s : SrcD) : SrcD := bif decide (1 ≤ f.length) then pickS (dnS1 f s) 2 else dnS1 f s
def dnK (f : List Int) (s : SrcD) : Int := bif dn2 f s then 5 + pickV (dnS1 f s) 4 else bif dn1 f s then 9 + pickV (dnS2 f s) 8 else pickV s 5
def dnX (f : List Int) (s : SrcD) : Bool := inR (dnK f s) 12 14
def dnT (f : List Int) (s : SrcD) : SrcD := bif dn2 f s then pickS (dnS1 f s) 4 else bif dn1 f s then (bif dnX f s then pickS (pickS (dnS2 f s) 8) 3 else pickS (dnS2 f s) 8) else dnS2 f s
def at2 (f : List Int) (i : Nat) : Int := (f[f.length - i]?).getD 0
def dnA (f : List Int) (s : SrcD) : Int := bif dn2 f s then at2 f 2 else bif dn1 f s then at2 f 1 else 0
def dnB (f : List Int) (s : SrcD) : Int := bif dn2 f s then at2 f 1 else bif dn1 f s then (bif dnX f s then pickV (pickS (dnS2 f s) 8) 3 else 0) else 0
--B usedV List Int → SrcD → Int
def usedV (f : List Int) (s : SrcD) : Int := bif dn2 f s then 2 else bif dn1 f s then 1 else 0
--B nodeV List Int → SrcD → NodeD
def nodeV (f : List Int) (s : SrcD) : NodeD := (dnK f s, dnA f s, dnB f s, numsV (dnK f s) (dnT f s))
--B nodeS List Int → SrcD → SrcD
def nodeS (f : List Int) (s : SrcD) : SrcD := numsS (dnK f s) (dnT f s)
theorem far_S1 (f : List Int) (s : SrcD) : Far s (dnS1 f s) 4 := by
  unfold dnS1
  cases decide (2 ≤ f.length) with
  | true => exact (far_pick s 5).trans (far_pick _ 2)
  | false => exact (far_pick s 5).mono (by omega)
theorem far_S2 (f : List Int) (s : SrcD) : Far s (dnS2 f s) 6 := by
  unfold dnS2
  cases decide (1 ≤ f.length) with
  | true => exact (far_S1 f s).trans (far_pick _ 2)
  | false => exact (far_S1 f s).mono (by omega)
theorem far_T (f : List Int) (s : SrcD) : Far s (dnT f s) 10 := by
  unfold dnT
  cases dn2 f s with
  | true => exact ((far_S1 f s).trans (far_pick _ 4)).mono (by omega)
  | false =>
    cases dn1 f s with
    | true =>
      cases dnX f s with
      | true => exact ((far_S2 f s).trans (far_pick _ 8)).trans (far_pick _ 3)
      | false => exact ((far_S2 f s).trans (far_pick _ 8)).mono (by omega)
    | false => exact (far_S2 f s).mono (by omega)
theorem far_node (f : List Int) (s : SrcD) : Far s (nodeS f s) 26 := (far_T f s).trans (far_nums _ _)
theorem dnK_range (f : List Int) {s : SrcD} (hb : bytes s.1) : (dn2 f s = true → 5 ≤ dnK f s ∧ dnK f s ≤ 8) ∧ (dn2 f s = false → dn1 f s = true → 9 ≤ dnK f s ∧ dnK f s ≤ 16) ∧ (dn2 f s = false → dn1 f s = false → 0 ≤ dnK f s ∧ dnK f s ≤ 4) := by
  have r1 := pickV_range (s := dnS1 f s) ((far_S1 f s).bytes hb) (n := 4) (by omega)
  have r2 := pickV_range (s := dnS2 f s) ((far_S2 f s).bytes hb) (n := 8) (by omega)
  have r3 := pickV_range (s := s) hb (n := 5) (by omega)
  unfold dnK
  refine ⟨fun h => ?_, fun h h' => ?_, fun h h' => ?_⟩
  · rw [h, cond_true]; omega
  · rw [h, h', cond_true, cond_false]; omega
  · rw [h, h', cond_false, cond_false]; omega
theorem dnK_is (f : List Int) {s : SrcD} (hb : bytes s.1) : isK (dnK f s) = true := by
  obtain ⟨h1, h2, h3⟩ := dnK_range f hb
  refine inR_iff.2 ?_
  cases e : dn2 f s with
  | true => have := h1 e; omega
  | false =>
    cases e2 : dn1 f s with
    | true => have := h2 e e2; omega
    | false => have := h3 e e2; omega
theorem kinds_two : ∀ k : Int, 5 ≤ k ∧ k ≤ 8 → kindC k = 2 := fun k h => by
  have : k = 5 ∨ k = 6 ∨ k = 7 ∨ k = 8 := by omega
  rcases this with r | r | r | r <;> subst r <;> decide
theorem kinds_one : ∀ k : Int, 9 ≤ k ∧ k ≤ 16 → kindC k = 1 ∧ (inR k 12 14 = true → kindA k = true) := fun k h => by
  have : k = 9 ∨ k = 10 ∨ k = 11 ∨ k = 12 ∨ k = 13 ∨ k = 14 ∨ k = 15 ∨ k = 16 := by omega
  rcases this with r | r | r | r | r | r | r | r <;> subst r <;> decide
theorem kinds_leaf : ∀ k : Int, 0 ≤ k ∧ k ≤ 4 → kindC k = 0 := fun k h => by
  have : k = 0 ∨ k = 1 ∨ k = 2 ∨ k = 3 ∨ k = 4 := by omega
  rcases this with r | r | r | r | r <;> subst r <;> decide
theorem last2 (f : List Int) (h : 2 ≤ f.length) : f = f.take (f.length - 2) ++ [at2 f 2, at2 f 1] := by
  have h1 : f.length - 2 < f.length := by omega
  have h2 : f.length - 1 < f.length := by omega
  conv => lhs; rw [← List.take_append_drop (f.length - 2) f]
  rw [List.drop_eq_getElem_cons h1]
  have e : f.length - 2 + 1 = f.length - 1 := by omega
  rw [e, List.drop_eq_getElem_cons h2, List.drop_of_length_le (by omega)]
  unfold at2
  rw [get_lt h1, get_lt h2]
  rfl
theorem last1 (f : List Int) (h : 1 ≤ f.length) : f = f.take (f.length - 1) ++ [at2 f 1] := by
  have h2 : f.length - 1 < f.length := by omega
  conv => lhs; rw [← List.take_append_drop (f.length - 1) f]
  rw [List.drop_eq_getElem_cons h2, List.drop_of_length_le (by omega)]
  unfold at2
  rw [get_lt h2]
  rfl
theorem used_range (f : List Int) (s : SrcD) : 0 ≤ usedV f s ∧ usedV f s ≤ f.length := by
  unfold usedV dn2 dn1
  by_cases h2 : 2 ≤ f.length
  · cases pickV (pickS s 5) 2 == 0 <;> cases pickV (dnS1 f s) 2 == 0 <;> simp only [d_t h2, d_t (show 1 ≤ f.length by omega), Bool.and_true, Bool.and_false, cond_true, cond_false] <;> omega
  · by_cases h1 : 1 ≤ f.length
    · cases pickV (dnS1 f s) 2 == 0 <;> simp only [d_f h2, d_t h1, Bool.and_true, Bool.and_false, Bool.false_and, cond_true, cond_false] <;> omega
    · simp only [d_f h2, d_f h1, Bool.false_and, cond_false]; omega
theorem at2_mem (f : List Int) (i : Nat) (h1 : 1 ≤ i) (h : i ≤ f.length) : at2 f i ∈ f := by
  unfold at2
  rw [get_lt (show f.length - i < f.length by omega)]
  exact List.getElem_mem _
/-- A drawn node with the free ones that it takes. -/
theorem stack_node {ns : List NodeD} {f : List Int} (h : Stack ns f) {s : SrcD} (hb : bytes s.1) : Stack (ns ++ [nodeV f s]) (f.take ((f.length : Int) - usedV f s).toNat ++ [(ns.length : Int)]) := by
  obtain ⟨h1, h2, h3⟩ := dnK_range f hb
  have hk := dnK_is f hb
  have hn := nums_ok hk ((far_T f s).bytes hb)
  have kid : ∀ c ∈ f, inR c 0 ((ns.length : Int) - 1) = true := fun c hc => by
    have := h.free c hc
    exact inR_iff.2 (by omega)
  unfold usedV
  cases e : dn2 f s with
  | true =>
    have hl : 2 ≤ f.length := by unfold dn2 at e; simp only [Bool.and_eq_true, decide_eq_true_eq] at e; exact e.1
    have hc := kinds_two _ (h1 e)
    have hkid : kidsN (nodeV f s) = [at2 f 2, at2 f 1] := by
      show kids (dnK f s) (dnA f s) (dnB f s) = _
      unfold kids dnA dnB
      rw [hc, e]
      rfl
    have hsp := last2 f hl
    rw [cond_true, show ((f.length : Int) - 2).toNat = f.length - 2 by omega]
    refine h.push (by rw [hkid]; exact hsp) ?_
    unfold nodeB
    rw [hkid]
    show (numsB (dnK f s) (numsV (dnK f s) (dnT f s)) && (axB (dnK f s) (dnA f s) (dnB f s) && _)) = true
    rw [hn]
    unfold axB
    rw [hc]
    simp only [List.all_cons, List.all_nil, Bool.and_true, Bool.true_and]
    rw [kid _ (at2_mem f 2 (by omega) hl), kid _ (at2_mem f 1 (by omega) (by omega))]
    rfl
  | false =>
    cases e2 : dn1 f s with
    | true =>
      have hl : 1 ≤ f.length := by unfold dn1 at e2; simp only [Bool.and_eq_true, decide_eq_true_eq] at e2; exact e2.1
      obtain ⟨hc, hax⟩ := kinds_one _ (h2 e e2)
      have hkid : kidsN (nodeV f s) = [at2 f 1] := by
        show kids (dnK f s) (dnA f s) (dnB f s) = _
        unfold kids dnA
        rw [hc, e, e2]
        rfl
      have hsp := last1 f hl
      rw [cond_true, cond_false, show ((f.length : Int) - 1).toNat = f.length - 1 by omega]
      refine h.push (by rw [hkid]; exact hsp) ?_
      unfold nodeB
      rw [hkid]
      show (numsB (dnK f s) (numsV (dnK f s) (dnT f s)) && (axB (dnK f s) (dnA f s) (dnB f s) && _)) = true
      have hbx : axB (dnK f s) (dnA f s) (dnB f s) = true := by
        unfold axB
        rw [hc]
        unfold dnB
        rw [e, e2]
        simp only [cond_true, cond_false]
        cases ex : dnX f s with
        | true =>
          have r3 := pickV_range (s := pickS (dnS2 f s) 8) (((far_S2 f s).trans (far_pick _ 8)).bytes hb) (n := 3) (by omega)
          rw [cond_true, hax ex, inR_iff.2 (show 0 ≤ pickV (pickS (dnS2 f s) 8) 3 ∧ pickV (pickS (dnS2 f s) 8) 3 ≤ 2 by omega)]
          simp
        | false => rw [cond_false]; rfl
      rw [hn, hbx]
      simp only [List.all_cons, List.all_nil, Bool.and_true, Bool.true_and]
      exact kid _ (at2_mem f 1 (by omega) hl)
    | false =>
      have hc := kinds_leaf _ (h3 e e2)
      have hkid : kidsN (nodeV f s) = [] := by
        show kids (dnK f s) (dnA f s) (dnB f s) = _
        unfold kids
        rw [hc]
        rfl
      rw [cond_false, cond_false, show ((f.length : Int) - 0).toNat = f.length by omega, List.take_length]
      refine h.push (by rw [hkid, List.append_nil]) ?_
      unfold nodeB
      rw [hkid]
      show (numsB (dnK f s) (numsV (dnK f s) (dnT f s)) && (axB (dnK f s) (dnA f s) (dnB f s) && _)) = true
      have hbx : axB (dnK f s) (dnA f s) (dnB f s) = true := by
        unfold axB
        rw [hc]
        unfold dnA dnB
        rw [e, e2]
        rfl
      rw [hn, hbx]
      rfl

/-! shapes -/
abbrev ShD := List NodeD × List Int × SrcD
def shStep (q : ShD) : ShD := (q.1 ++ [nodeV q.2.1 q.2.2], q.2.1.take ((q.2.1.length : Int) - usedV q.2.1 q.2.2).toNat ++ [(q.1.length : Int)], nodeS q.2.1 q.2.2)
def shGo : Nat → ShD → ShD
  | 0, q => q
  | n + 1, q => shGo n (shStep q)
def clNode (q : ShD) : NodeD := (5 + pickV q.2.2 3, at2 q.2.1 2, at2 q.2.1 1, [])
def clStep (q : ShD) : ShD := (q.1 ++ [clNode q], q.2.1.take (q.2.1.length - 2) ++ [(q.1.length : Int)], pickS q.2.2 3)
def clGo : Nat → ShD → ShD
  | 0, q => q
  | n + 1, q => clGo n (clStep q)
def sh0 (s : SrcD) : ShD := ([], [], pickS s 7)
def sh1 (s : SrcD) : ShD := shGo (1 + pickV s 7).toNat (sh0 s)
def sh2 (s : SrcD) : ShD := clGo ((sh1 s).2.1.length - 1) (sh1 s)
--B shapeV SrcD → List NodeD
def shapeV (s : SrcD) : List NodeD := (sh2 s).1
--B shapeS SrcD → SrcD
def shapeS (s : SrcD) : SrcD := (sh2 s).2.2
structure ShOk (q : ShD) (n : Nat) : Prop where
  st : Stack q.1 q.2.1
  b : bytes q.2.2.1
  l : q.1.length = n
theorem shStep_ok {q : ShD} {n : Nat} (h : ShOk q n) : ShOk (shStep q) (n + 1) := ⟨stack_node h.st h.b, (far_node _ _).bytes h.b, by show (q.1 ++ [_]).length = _; rw [List.length_append, h.l]; rfl⟩
theorem clStep_ok {q : ShD} {n : Nat} (h : ShOk q n) (hf : 2 ≤ q.2.1.length) : ShOk (clStep q) (n + 1) := by
  refine ⟨?_, (far_pick _ _).bytes h.b, by show (q.1 ++ [_]).length = _; rw [List.length_append, h.l]; rfl⟩
  have r := pickV_range (s := q.2.2) h.b (n := 3) (by omega)
  have hc := kinds_two (5 + pickV q.2.2 3) (by omega)
  have hsp := last2 q.2.1 hf
  have hkid : kidsN (clNode q) = [at2 q.2.1 2, at2 q.2.1 1] := by
    show kids (5 + pickV q.2.2 3) _ _ = _
    unfold kids
    rw [hc]
    rfl
  have kid : ∀ c ∈ q.2.1, inR c 0 ((q.1.length : Int) - 1) = true := fun c hc => by
    have := h.st.free c hc
    exact inR_iff.2 (by omega)
  refine h.st.push (by rw [hkid]; exact hsp) ?_
  unfold nodeB
  rw [hkid]
  have hn : numsB (clNode q).1 (clNode q).2.2.2 = true := by
    have : 5 + pickV q.2.2 3 = 5 ∨ 5 + pickV q.2.2 3 = 6 ∨ 5 + pickV q.2.2 3 = 7 := by omega
    show numsB (5 + pickV q.2.2 3) [] = true
    rcases this with e | e | e <;> rw [e] <;> decide
  have hbx : axB (clNode q).1 (clNode q).2.1 (clNode q).2.2.1 = true := by
    show axB (5 + pickV q.2.2 3) _ _ = true
    unfold axB
    rw [hc]
    rfl
  rw [hn, hbx]
  simp only [List.all_cons, List.all_nil, Bool.and_true, Bool.true_and]
  rw [kid _ (at2_mem q.2.1 2 (by omega) hf), kid _ (at2_mem q.2.1 1 (by omega) (by omega))]
  rfl
theorem shGo_ok : ∀ (m : Nat) {q : ShD} {n : Nat}, ShOk q n → ShOk (shGo m q) (n + m)
  | 0, _, _, h => h
  | m + 1, q, n, h => by have := shGo_ok m (shStep_ok h); rw [show n + 1 + m = n + (m + 1) by omega] at this; exact this
theorem clStep_free (q : ShD) (hf : 2 ≤ q.2.1.length) : (clStep q).2.1.length = q.2.1.length - 1 := by
  show (q.2.1.take (q.2.1.length - 2) ++ [(q.1.length : Int)]).length = _
  rw [List.length_append, List.length_take, List.length_singleton]
  omega
theorem clGo_ok : ∀ (m : Nat) {q : ShD} {n : Nat}, ShOk q n → q.2.1.length = m + 1 → ShOk (clGo m q) (n + m) ∧ (clGo m q).2.1.length = 1
  | 0, _, _, h, e => ⟨h, e⟩
  | m + 1, q, n, h, e => by
    have := clGo_ok m (clStep_ok h (by omega)) (by rw [clStep_free q (by omega)]; omega)
    rw [show n + 1 + m = n + (m + 1) by omega] at this
    exact this
theorem far_shGo : ∀ (m : Nat) (q : ShD), Far q.2.2 (shGo m q).2.2 (26 * m)
  | 0, q => (Far.refl _).mono (by omega)
  | m + 1, q => ((far_node q.2.1 q.2.2).trans (far_shGo m (shStep q))).mono (by omega)
theorem far_clGo : ∀ (m : Nat) (q : ShD), Far q.2.2 (clGo m q).2.2 (2 * m)
  | 0, q => (Far.refl _).mono (by omega)
  | m + 1, q => ((far_pick q.2.2 3).trans (far_clGo m (clStep q))).mono (by omega)
theorem sh0_ok {s : SrcD} (hb : bytes s.1) : ShOk (sh0 s) 0 := ⟨stack_nil, (far_pick s 7).bytes hb, rfl⟩
theorem sh1_ok {s : SrcD} (hb : bytes s.1) : ∃ n : Nat, (1 + pickV s 7) = (n : Int) ∧ 1 ≤ n ∧ n ≤ 7 ∧ ShOk (sh1 s) n ∧ 1 ≤ (sh1 s).2.1.length ∧ (sh1 s).2.1.length ≤ n := by
  have r := pickV_range (s := s) hb (n := 7) (by omega)
  refine ⟨(1 + pickV s 7).toNat, by omega, by omega, by omega, ?_, ?_, ?_⟩
  · have := shGo_ok (1 + pickV s 7).toNat (sh0_ok hb)
    rw [Nat.zero_add] at this
    exact this
  · have h := shGo_ok (1 + pickV s 7).toNat (sh0_ok hb)
    have hne : (sh1 s).1 ≠ [] := fun e => by
      have := h.l
      have e2 : (shGo (1 + pickV s 7).toNat (sh0 s)).1 = [] := e
      rw [e2] at this
      simp at this
      omega
    have := h.st.last hne
    show 1 ≤ (shGo (1 + pickV s 7).toNat (sh0 s)).2.1.length
    cases e : (shGo (1 + pickV s 7).toNat (sh0 s)).2.1 with
    | nil => rw [e] at this; simp at this
    | cons _ _ => simp
  · have h := shGo_ok (1 + pickV s 7).toNat (sh0_ok hb)
    have := h.st.len
    rw [h.l] at this
    show (shGo (1 + pickV s 7).toNat (sh0 s)).2.1.length ≤ _
    omega
theorem shape_ok {s : SrcD} (hb : bytes s.1) : validS (shapeV s) = true := by
  obtain ⟨n, e, n1, n2, h, f1, f2⟩ := sh1_ok hb
  obtain ⟨h2, h3⟩ := clGo_ok ((sh1 s).2.1.length - 1) h (by omega)
  obtain ⟨r, hr⟩ := List.length_eq_one_iff.1 h3
  have hs := h2.st
  rw [hr] at hs
  have hl := h2.l
  exact hs.valid (by omega) (by omega)
theorem far_shape {s : SrcD} (hb : bytes s.1) : Far s (shapeS s) 210 := by
  obtain ⟨n, e, n1, n2, h, f1, f2⟩ := sh1_ok hb
  have a1 := far_shGo (1 + pickV s 7).toNat (sh0 s)
  have a2 := far_clGo ((sh1 s).2.1.length - 1) (sh1 s)
  exact (((far_pick s 7).trans a1).trans a2).mono (by omega)

/-! keys -/
abbrev KyD := List KeyD × Int × SrcD
def plV (s : SrcD) : V3 := (smallV s, smallV (smallS s), smallV (smallS (smallS s)))
def plS (s : SrcD) : SrcD := smallS (smallS (smallS s))
def lastP (ks : List KeyD) : V3 := ((ks[ks.length - 1]?).getD (0, 0, 0, 0)).2
def kyP (ks : List KeyD) (s : SrcD) : V3 := bif decide (0 < ks.length) && pickV (plS s) 3 == 0 then lastP ks else plV s
def kyS (ks : List KeyD) (s : SrcD) : SrcD := bif decide (0 < ks.length) then pickS (plS s) 3 else plS s
def kyStep (q : KyD) : KyD := (q.1 ++ [(q.2.1, kyP q.1 q.2.2)], q.2.1 + (1 + pickV (kyS q.1 q.2.2) 8), pickS (kyS q.1 q.2.2) 8)
def kyGo : Nat → KyD → KyD
  | 0, q => q
  | n + 1, q => kyGo n (kyStep q)
def ky0 (s : SrcD) : KyD := ([], pickV s 4, pickS (pickS s 4) 4)
def kyN (s : SrcD) : Int := 1 + pickV (pickS s 4) 4
--B keysV SrcD → List KeyD
def keysV (s : SrcD) : List KeyD := (kyGo (kyN s).toNat (ky0 s)).1
--B keysS SrcD → SrcD
def keysS (s : SrcD) : SrcD := (kyGo (kyN s).toNat (ky0 s)).2.2
theorem far_pl (s : SrcD) : Far s (plS s) 6 := ((far_small s).trans (far_small _)).trans (far_small _)
theorem far_kyS (ks : List KeyD) (s : SrcD) : Far s (kyS ks s) 8 := by
  unfold kyS
  cases decide (0 < ks.length) with
  | true => exact (far_pl s).trans (far_pick _ 3)
  | false => exact (far_pl s).mono (by omega)
theorem far_kyStep (q : KyD) : Far q.2.2 (kyStep q).2.2 10 := (far_kyS q.1 q.2.2).trans (far_pick _ 8)
theorem far_kyGo : ∀ (m : Nat) (q : KyD), Far q.2.2 (kyGo m q).2.2 (10 * m)
  | 0, q => (Far.refl _).mono (by omega)
  | m + 1, q => ((far_kyStep q).trans (far_kyGo m (kyStep q))).mono (by omega)
theorem fin_pl {s : SrcD} (hb : bytes s.1) : finV (plV s) = true := by
  have b1 := (far_small s).bytes hb
  have b2 := (far_small (smallS s)).bytes b1
  have f : ∀ {t : SrcD}, bytes t.1 → finN (smallV t) = true := fun ht => (small_fin (pickV_range ht (n := 33) (by omega))).1
  unfold finV plV
  rw [f hb, f b1, f b2]
  rfl
structure KyOk (q : KyD) (n : Nat) : Prop where
  b : bytes q.2.2.1
  l : q.1.length = n
  lo : 0 ≤ q.2.1
  hi : q.2.1 ≤ 3 + 8 * (n : Int)
  up : ∀ (j : Nat) (hj : j < q.1.length), keyAt q.1 j = true
  last : ∀ k ∈ q.1, k.1 < q.2.1 ∧ finV k.2 = true
theorem keyAt_app {ks : List KeyD} {k : KeyD} {j : Nat} (hj : j < ks.length) : keyAt (ks ++ [k]) j = keyAt ks j := by
  unfold keyAt
  rw [List.getElem?_append_left hj, List.getElem?_append_left (show j - 1 < ks.length by omega)]
theorem kyP_fin {ks : List KeyD} {s : SrcD} (hb : bytes s.1) (h : ∀ k ∈ ks, finV k.2 = true) : finV (kyP ks s) = true := by
  unfold kyP
  cases e : (decide (0 < ks.length) && pickV (plS s) 3 == 0) with
  | false => exact fin_pl hb
  | true =>
    simp only [Bool.and_eq_true, decide_eq_true_eq] at e
    show finV (lastP ks) = true
    unfold lastP
    rw [get_lt (show ks.length - 1 < ks.length by omega)]
    exact h _ (List.getElem_mem _)
theorem kyStep_ok {q : KyD} {n : Nat} (h : KyOk q n) (hn : n ≤ 8) : KyOk (kyStep q) (n + 1) := by
  have b1 := (far_kyS q.1 q.2.2).bytes h.b
  have r := pickV_range (s := kyS q.1 q.2.2) b1 (n := 8) (by omega)
  have hlo := h.lo
  have hhi := h.hi
  have hfin := kyP_fin (ks := q.1) h.b fun k hk => (h.last k hk).2
  refine ⟨(far_kyStep q).bytes h.b, ?_, ?_, ?_, ?_, ?_⟩
  · show (q.1 ++ [_]).length = _
    rw [List.length_append, h.l]; rfl
  · show 0 ≤ q.2.1 + (1 + pickV (kyS q.1 q.2.2) 8); omega
  · show q.2.1 + (1 + pickV (kyS q.1 q.2.2) 8) ≤ _; omega
  · intro j hj
    have hj' : j < q.1.length + 1 := by
      have : (q.1 ++ [(q.2.1, kyP q.1 q.2.2)]).length = q.1.length + 1 := by rw [List.length_append]; rfl
      rw [← this]; exact hj
    by_cases hl : j < q.1.length
    · show keyAt (q.1 ++ [_]) j = true
      rw [keyAt_app hl]
      exact h.up j hl
    · have : j = q.1.length := by omega
      subst this
      show keyAt (q.1 ++ [(q.2.1, kyP q.1 q.2.2)]) q.1.length = true
      have hx : q.1.length < (q.1 ++ [(q.2.1, kyP q.1 q.2.2)]).length := by rw [List.length_append, List.length_singleton]; omega
      unfold keyAt
      rw [List.getElem?_append_right (Nat.le_refl _), Nat.sub_self]
      show (inR q.2.1 0 10000 && (finV (kyP q.1 q.2.2) && _)) = true
      rw [inR_iff.2 (by omega), hfin, Bool.true_and, Bool.true_and]
      by_cases h0 : q.1.length = 0
      · rw [h0]; rfl
      · rw [beq_eq_false_iff_ne.2 h0, Bool.false_or, List.getElem?_append_left (show q.1.length - 1 < q.1.length by omega), get_lt (show q.1.length - 1 < q.1.length by omega)]
        exact decide_eq_true (h.last _ (List.getElem_mem _)).1
  · intro k hk
    rcases List.mem_append.1 hk with hk | hk
    · have := h.last k hk
      refine ⟨?_, this.2⟩
      show k.1 < q.2.1 + (1 + pickV (kyS q.1 q.2.2) 8)
      omega
    · rw [List.mem_singleton.1 hk]
      refine ⟨?_, hfin⟩
      show q.2.1 < q.2.1 + (1 + pickV (kyS q.1 q.2.2) 8)
      omega
theorem kyGo_ok : ∀ (m : Nat) {q : KyD} {n : Nat}, KyOk q n → n + m ≤ 8 → KyOk (kyGo m q) (n + m)
  | 0, _, _, h, _ => h
  | m + 1, q, n, h, hl => by have := kyGo_ok m (kyStep_ok h (by omega)) (by omega); rw [show n + 1 + m = n + (m + 1) by omega] at this; exact this
theorem ky0_ok {s : SrcD} (hb : bytes s.1) : KyOk (ky0 s) 0 := by
  have r := pickV_range (s := s) hb (n := 4) (by omega)
  refine ⟨((far_pick s 4).trans (far_pick _ 4)).bytes hb, rfl, ?_, ?_, fun j hj => by simp [ky0] at hj, fun k hk => by simp [ky0] at hk⟩
  · show 0 ≤ pickV s 4; omega
  · show pickV s 4 ≤ _; omega
theorem kyN_range {s : SrcD} (hb : bytes s.1) : 1 ≤ kyN s ∧ kyN s ≤ 4 := by
  have r := pickV_range (s := pickS s 4) ((far_pick s 4).bytes hb) (n := 4) (by omega)
  unfold kyN
  omega
theorem keys_ok {s : SrcD} (hb : bytes s.1) : keysB (keysV s) = true := by
  have r := kyN_range hb
  have h := kyGo_ok (kyN s).toNat (ky0_ok hb) (by omega)
  have hl : (keysV s).length = (kyN s).toNat := by have := h.l; rw [Nat.zero_add] at this; exact this
  unfold keysB
  rw [inR_iff.2 (show 1 ≤ ((keysV s).length : Int) ∧ ((keysV s).length : Int) ≤ 8 by omega), Bool.true_and]
  exact keys_yes fun j hj => h.up j hj
theorem far_keys {s : SrcD} (hb : bytes s.1) : Far s (keysS s) 44 := by
  have r := kyN_range hb
  exact (((far_pick s 4).trans (far_pick _ 4)).trans (far_kyGo (kyN s).toNat (ky0 s))).mono (by omega)

/-! things and scenes -/
def nameL : List Str := [[97], [98], [98, 97, 108, 108], [99], [99, 117, 112], [100], [101], [116, 97, 98, 108, 101]]
def nameAt (s : SrcD) : Str := (nameL[(pickV s 8).toNat]?).getD []
--B thingV SrcD → ThingD
def thingV (s : SrcD) : ThingD := (nameAt s, shapeV (pickS s 8), keysV (shapeS (pickS s 8)))
--B thingS SrcD → SrcD
def thingS (s : SrcD) : SrcD := keysS (shapeS (pickS s 8))
theorem name_ok {s : SrcD} (hb : bytes s.1) : nameB (nameAt s) = true := by
  have r := pickV_range (s := s) hb (n := 8) (by omega)
  have : (pickV s 8).toNat < 8 := by omega
  unfold nameAt
  have tab : ∀ j, j < 8 → nameB ((nameL[j]?).getD []) = true := by decide
  exact tab _ this
theorem thing_ok {s : SrcD} (hb : bytes s.1) : thingB (thingV s) = true := by
  have b1 := (far_pick s 8).bytes hb
  have b2 := (far_shape b1).bytes b1
  unfold thingB
  show (nameB (nameAt s) && (validS (shapeV (pickS s 8)) && keysB (keysV (shapeS (pickS s 8))))) = true
  rw [name_ok hb, shape_ok b1, keys_ok b2]
  rfl
theorem far_thing {s : SrcD} (hb : bytes s.1) : Far s (thingS s) 256 := by
  have b1 := (far_pick s 8).bytes hb
  have b2 := (far_shape b1).bytes b1
  exact ((far_pick s 8).trans (far_shape b1)).trans (far_keys b2)
abbrev ScD := List ThingD × SrcD
def scStep (q : ScD) : ScD := (putF q.1 (thingV q.2), thingS q.2)
def scGo : Nat → ScD → ScD
  | 0, q => q
  | n + 1, q => scGo n (scStep q)
--B sceneV SrcD → List ThingD
def sceneV (s : SrcD) : List ThingD := (scGo (pickV s 4).toNat ([], pickS s 4)).1
--B sceneS SrcD → SrcD
def sceneS (s : SrcD) : SrcD := (scGo (pickV s 4).toNat ([], pickS s 4)).2
structure ScOk (q : ScD) (n : Nat) : Prop where
  b : bytes q.2.1
  up : upB q.1 = true
  l : q.1.length ≤ n
theorem scStep_ok {q : ScD} {n : Nat} (h : ScOk q n) : ScOk (scStep q) (n + 1) :=
  ⟨(far_thing h.b).bytes h.b, putF_up h.up (thing_ok h.b), Nat.le_trans (putF_len _ _) (by have := h.l; omega)⟩
theorem scGo_ok : ∀ (m : Nat) {q : ScD} {n : Nat}, ScOk q n → ScOk (scGo m q) (n + m)
  | 0, _, _, h => h
  | m + 1, q, n, h => by have := scGo_ok m (scStep_ok h); rw [show n + 1 + m = n + (m + 1) by omega] at this; exact this
theorem far_scGo : ∀ (m : Nat) {q : ScD} {n : Nat}, ScOk q n → Far q.2 (scGo m q).2 (256 * m)
  | 0, _, _, _ => (Far.refl _).mono (by omega)
  | m + 1, q, n, h => ((far_thing h.b).trans (far_scGo m (scStep_ok h))).mono (by omega)
theorem sc0_ok {s : SrcD} (hb : bytes s.1) : ScOk ([], pickS s 4) 0 := ⟨(far_pick s 4).bytes hb, rfl, Nat.le_refl _⟩
theorem scene_ok {s : SrcD} (hb : bytes s.1) : upB (sceneV s) = true ∧ (sceneV s).length ≤ 3 := by
  have r := pickV_range (s := s) hb (n := 4) (by omega)
  have h := scGo_ok (pickV s 4).toNat (sc0_ok hb)
  have hl := h.l
  refine ⟨h.up, ?_⟩
  show (scGo (pickV s 4).toNat ([], pickS s 4)).1.length ≤ 3
  omega

end Go.Proofs.Ytmkomfhnomnbiaa
