/- Merged texts: ShP ShQ ShW FlA FlB FlC FlD FlE FlF FlG FlH FlI FlJ EvFlr FlK FlS FlR EvEven. -/
import Derived.Test.YtfhpmcdbfebflaaM3
import Ieee.Arith
/- Plain: shapes that are made by a stack of free nodes are valid. -/
set_option linter.unusedVariables false
set_option linter.unusedSimpArgs false
set_option maxRecDepth 100000
namespace Go.Proofs.Ytfhpmcdbfebflaa
open Go.Ev

theorem inc1_get (u : List Int) (c : Int) (hc : 0 ≤ c) (p : Nat) (hp : p < u.length) : (inc1 u c)[p]? = some ((u[p]'hp) + (if c = (p : Int) then 1 else 0)) := by
  unfold inc1
  by_cases e : c = (p : Int)
  · subst e
    rw [Int.toNat_natCast, List.getElem?_set_self hp, List.getElem?_eq_getElem hp]
    simp
  · rw [List.getElem?_set_ne (by omega), List.getElem?_eq_getElem hp, if_neg e, Int.add_zero]
theorem inc1_len (u : List Int) (c : Int) : (inc1 u c).length = u.length := by unfold inc1; exact List.length_set
theorem incs_len : ∀ (cs : List Int) (u : List Int), (incs u cs).length = u.length
  | [], _ => rfl
  | c :: cs, u => (incs_len cs (inc1 u c)).trans (inc1_len u c)
theorem incs_get : ∀ (cs : List Int) (u : List Int), (∀ c ∈ cs, 0 ≤ c) → ∀ (p : Nat) (hp : p < u.length), (incs u cs)[p]? = some ((u[p]'hp) + (cs.count (p : Int) : Nat))
  | [], u, _, p, hp => by
    show u[p]? = _
    rw [List.getElem?_eq_getElem hp]
    simp
  | c :: cs, u, h, p, hp => by
    have hp' : p < (inc1 u c).length := by rw [inc1_len]; exact hp
    have h1 := inc1_get u c (h c (by simp)) p hp
    have h2 := incs_get cs (inc1 u c) (fun c' hc' => h c' (by simp [hc'])) p hp'
    show (incs (inc1 u c) cs)[p]? = _
    rw [h2]
    congr 1
    have h3 : (inc1 u c)[p]'hp' = (u[p]'hp) + (if c = (p : Int) then 1 else 0) := by
      have := inc1_get u c (h c (by simp)) p hp
      rw [List.getElem?_eq_getElem hp'] at this
      exact Option.some.inj this
    rw [h3, List.count_cons]
    by_cases e : c = (p : Int)
    · rw [if_pos e, e, beq_self_eq_true, if_pos rfl]; omega
    · rw [if_neg e, beq_eq_false_iff_ne.2 e, if_neg (by decide)]; omega
theorem uses_len (ns : List NodeD) (u : List Int) : (usesOf ns u).length = u.length := by
  unfold usesOf
  induction ns generalizing u with
  | nil => rfl
  | cons n r ih => rw [List.foldl_cons, ih, incs_len]
theorem uses_get (ns : List NodeD) : ∀ (u : List Int), (∀ n ∈ ns, ∀ c ∈ kidsN n, 0 ≤ c) → ∀ (p : Nat) (hp : p < u.length), (usesOf ns u)[p]? = some ((u[p]'hp) + ((ns.flatMap kidsN).count (p : Int) : Nat)) := by
  induction ns with
  | nil =>
    intro u _ p hp
    show u[p]? = _
    rw [List.getElem?_eq_getElem hp]
    simp
  | cons n r ih =>
    intro u h p hp
    have hp' : p < (incs u (kidsN n)).length := by rw [incs_len]; exact hp
    have h1 := incs_get (kidsN n) u (h n (by simp)) p hp
    have h2 := ih (incs u (kidsN n)) (fun m hm => h m (by simp [hm])) p hp'
    show (usesOf r (incs u (kidsN n)))[p]? = _
    rw [h2]
    rw [List.getElem?_eq_getElem hp'] at h1
    rw [Option.some.inj h1, List.flatMap_cons, List.count_append]
    congr 1
    omega

def upTo (n : Nat) : List Int := (List.range n).map Int.ofNat
theorem upTo_mem {n : Nat} {x : Int} (h : x ∈ upTo n) : 0 ≤ x ∧ x < n := by
  unfold upTo at h
  obtain ⟨i, hi, rfl⟩ := List.mem_map.1 h
  have := List.mem_range.1 hi
  exact ⟨Int.natCast_nonneg i, by show (i : Int) < n; omega⟩
theorem upTo_succ (n : Nat) : upTo (n + 1) = upTo n ++ [(n : Int)] := by
  unfold upTo
  rw [List.range_succ, List.map_append]
  rfl
theorem upTo_count (n p : Nat) (h : p < n) : (upTo n).count (p : Int) = 1 := by
  induction n with
  | zero => omega
  | succ n ih =>
    rw [upTo_succ, List.count_append, List.count_cons, List.count_nil]
    by_cases e : p = n
    · subst e
      have : (upTo p).count (p : Int) = 0 := List.count_eq_zero.2 fun hm => by have := upTo_mem hm; omega
      rw [this, beq_self_eq_true, if_pos rfl]
    · rw [ih (by omega), beq_eq_false_iff_ne.2 (by omega), if_neg (by decide)]
structure Stack (ns : List NodeD) (fr : List Int) : Prop where
  nodes : ∀ (j : Nat) (n : NodeD), ns[j]? = some n → nodeB j n = true
  perm : (ns.flatMap kidsN ++ fr).Perm (upTo ns.length)
  last : ns ≠ [] → fr.getLast? = some ((ns.length : Int) - 1)
theorem stack_nil : Stack [] [] := ⟨fun j n h => by simp at h, by simp [upTo], fun h => absurd rfl h⟩
theorem Stack.free {ns : List NodeD} {fr : List Int} (h : Stack ns fr) : ∀ c ∈ fr, 0 ≤ c ∧ c < ns.length := fun c hc =>
  upTo_mem (h.perm.subset (List.mem_append_right _ hc))
theorem Stack.kids {ns : List NodeD} {fr : List Int} (h : Stack ns fr) : ∀ n ∈ ns, ∀ c ∈ kidsN n, 0 ≤ c := fun n hn c hc =>
  (upTo_mem (h.perm.subset (List.mem_append_left _ (List.mem_flatMap.2 ⟨n, hn, hc⟩)))).1
theorem Stack.len {ns : List NodeD} {fr : List Int} (h : Stack ns fr) : fr.length ≤ ns.length := by
  have := h.perm.length_eq
  rw [List.length_append] at this
  unfold upTo at this
  rw [List.length_map, List.length_range] at this
  omega
theorem Stack.push {ns : List NodeD} {fr rest : List Int} (h : Stack ns fr) {n : NodeD} (hf : fr = rest ++ kidsN n) (hn : nodeB ns.length n = true) : Stack (ns ++ [n]) (rest ++ [(ns.length : Int)]) := by
  refine ⟨fun j m hj => ?_, ?_, fun _ => by simp⟩
  · rcases Nat.lt_or_ge j ns.length with hl | hl
    · rw [List.getElem?_append_left hl] at hj
      exact h.nodes j m hj
    · rw [List.getElem?_append_right hl] at hj
      have hj0 := lt_of_get hj
      simp only [List.length_singleton] at hj0
      have : j = ns.length := by omega
      subst this
      rw [Nat.sub_self] at hj
      cases hj
      exact hn
  · have hp := h.perm
    rw [hf] at hp
    rw [List.length_append, List.length_singleton, upTo_succ, List.flatMap_append, List.flatMap_singleton]
    refine List.Perm.trans ?_ (hp.append_right _)
    rw [List.append_assoc, List.append_assoc]
    refine List.Perm.append_left _ ?_
    rw [← List.append_assoc]
    exact List.Perm.append_right _ List.perm_append_comm
theorem Stack.valid {ns : List NodeD} {r : Int} (h : Stack ns [r]) (h1 : 1 ≤ ns.length) (h2 : ns.length ≤ 16) : validS ns = true := by
  have hr : r = (ns.length : Int) - 1 := by
    have := h.last (fun e => by rw [e] at h1; simp at h1)
    simpa using this
  unfold validS
  simp only [Bool.and_eq_true]
  refine ⟨inR_iff.2 (by omega), ?_, ?_⟩
  · exact okUp_all fun j n _ hj => h.nodes j n hj
  · refine List.all_eq_true.2 fun x hx => ?_
    obtain ⟨p, hp, rfl⟩ := List.mem_iff_getElem.1 hx
    have hul : (usesAt ns ns.length).length = ns.length := by
      unfold usesAt
      rw [uses_len, List.length_replicate]
    rw [List.length_take, hul] at hp
    rw [List.getElem_take]
    have hu := uses_get ns (List.replicate ns.length 0) h.kids p (by rw [List.length_replicate]; omega)
    have e0 : usesAt ns ns.length = usesOf ns (List.replicate ns.length 0) := by unfold usesAt; rw [List.take_length]
    have hpp : p < (usesAt ns ns.length).length := by rw [hul]; omega
    have hc : (ns.flatMap kidsN ++ [r]).count (p : Int) = 1 := by rw [h.perm.count_eq]; exact upTo_count _ _ (by omega)
    rw [List.count_append, List.count_cons, List.count_nil, beq_eq_false_iff_ne.2 (by omega), if_neg (by decide)] at hc
    rw [← e0, List.getElem?_eq_getElem hpp] at hu
    rw [Option.some.inj hu, List.getElem_replicate]
    simp only [beq_iff_eq]
    omega

def quartV (n : Int) : Nat := fdiv .f32 (FloatKind.f32.nearest n) 1082130432
def sixtV (n : Int) : Nat := fdiv .f32 (FloatKind.f32.nearest n) 1098907648
def sizeV (x : Nat) : Nat := bif fle .f32 x 0 then fsub .f32 0 x else x
theorem tab_small : (List.range 33).all (fun j => finN (quartV (Int.ofNat j - 16)) && (finN (sizeV (quartV (Int.ofNat j - 16))) && !flt .f32 (sizeV (quartV (Int.ofNat j - 16))) 0)) = true := by decide +kernel
theorem tab_pos : (List.range 8).all (fun j => finN (quartV (1 + Int.ofNat j)) && !fle .f32 (quartV (1 + Int.ofNat j)) 0) = true := by decide +kernel
theorem tab_turn : (List.range 17).all (fun j => finN (sixtV (Int.ofNat j - 8))) = true := by decide +kernel
theorem small_fin {n : Int} (h : 0 ≤ n ∧ n < 33) : finN (quartV (n - 16)) = true ∧ finN (sizeV (quartV (n - 16))) = true ∧ flt .f32 (sizeV (quartV (n - 16))) 0 = false := by
  obtain ⟨m, rfl⟩ : ∃ m : Nat, n = Int.ofNat m := ⟨n.toNat, (Int.toNat_of_nonneg h.1).symm⟩
  have hm : m < 33 := by have h2 : (m : Int) < 33 := h.2; omega
  have := List.all_eq_true.1 tab_small m (List.mem_range.2 hm)
  simp only [Bool.and_eq_true, Bool.not_eq_true'] at this
  exact this
theorem pos_fin {n : Int} (h : 0 ≤ n ∧ n < 8) : finN (quartV (1 + n)) = true ∧ fle .f32 (quartV (1 + n)) 0 = false := by
  obtain ⟨m, rfl⟩ : ∃ m : Nat, n = Int.ofNat m := ⟨n.toNat, (Int.toNat_of_nonneg h.1).symm⟩
  have hm : m < 8 := by have h2 : (m : Int) < 8 := h.2; omega
  have := List.all_eq_true.1 tab_pos m (List.mem_range.2 hm)
  simp only [Bool.and_eq_true, Bool.not_eq_true'] at this
  exact this
theorem turn_fin {n : Int} (h : 0 ≤ n ∧ n < 17) : finN (sixtV (n - 8)) = true := by
  obtain ⟨m, rfl⟩ : ∃ m : Nat, n = Int.ofNat m := ⟨n.toNat, (Int.toNat_of_nonneg h.1).symm⟩
  have hm : m < 17 := by have h2 : (m : Int) < 17 := h.2; omega
  exact List.all_eq_true.1 tab_turn m (List.mem_range.2 hm)
def numB (k : Int) (x : Nat) : Bool := finN x && !sgnB (kindS k) x
theorem nums_of {k : Int} (hk : isK k = true) {xs : List Nat} (hl : (xs.length : Int) = kindN k) (h : ∀ x ∈ xs, numB k x = true) : numsB k xs = true := by
  unfold numsB
  rw [hk, hl, beq_self_eq_true, Bool.true_and, Bool.true_and]
  have h1 : xs.any (fun x => !finN x) = false := List.any_eq_false.2 fun x hx => by
    have := h x hx
    unfold numB at this
    simp only [Bool.and_eq_true] at this
    simp [this.1]
  have h2 : xs.any (fun x => sgnB (kindS k) x) = false := List.any_eq_false.2 fun x hx => by
    have := h x hx
    unfold numB at this
    simp only [Bool.and_eq_true, Bool.not_eq_true'] at this
    simp [this.2]
  rw [h1, h2]
  rfl

end Go.Proofs.Ytfhpmcdbfebflaa

/- Plain: what the laws draw: numbers, nodes, shapes, keys, things, scenes; all are valid. -/
set_option linter.unusedVariables false
set_option linter.unusedSimpArgs false
set_option maxRecDepth 100000
namespace Go.Proofs.Ytfhpmcdbfebflaa
open Go.Ev

def inS (n : Int) (s : SrcD) : Bool := decide (0 ≤ s.2.1) && decide (s.2.1 ≤ n)
theorem inS_iff {n : Int} {s : SrcD} : inS n s = true ↔ 0 ≤ s.2.1 ∧ s.2.1 ≤ n := by unfold inS; simp
theorem inS_src {n : Int} {s : SrcD} (h : inS n s = true) (hn : n ≤ 1152921504606846976) (L : Nat) (hL : 1 ≤ L) : srcIn L s = true := by
  rw [inS_iff] at h
  rw [srcIn_iff]
  have : (1152921504606846976 : Int) ≤ (L : Int) * 1152921504606846976 := by omega
  omega
structure Far (s t : SrcD) (n : Int) : Prop where
  b : t.1 = s.1
  lo : s.2.1 ≤ t.2.1
  hi : t.2.1 ≤ s.2.1 + n
theorem Far.refl (s : SrcD) : Far s s 0 := ⟨rfl, Int.le_refl _, by omega⟩
theorem Far.trans {s t u : SrcD} {n m : Int} (h : Far s t n) (h' : Far t u m) : Far s u (n + m) := ⟨h'.b.trans h.b, by have := h.lo; have := h'.lo; omega, by have := h.hi; have := h'.hi; omega⟩
theorem Far.mono {s t : SrcD} {n m : Int} (h : Far s t n) (hm : n ≤ m) : Far s t m := ⟨h.b, h.lo, by have := h.hi; omega⟩
theorem Far.ok {s t : SrcD} {n k m : Int} (h : Far s t n) (hs : inS k s = true) (hm : k + n ≤ m) : inS m t = true := by
  rw [inS_iff] at hs ⊢
  have := h.lo; have := h.hi; omega
theorem Far.bytes {s t : SrcD} {n : Int} (h : Far s t n) (hb : bytes s.1) : bytes t.1 := by rw [h.b]; exact hb
theorem far_pick (s : SrcD) (n : Int) : Far s (pickS s n) 2 := ⟨pickS_1 s n, (pickS_at s n).1, (pickS_at s n).2⟩

def smallV (s : SrcD) : Nat := quartV (pickV s 33 - 16)
def smallS (s : SrcD) : SrcD := pickS s 33
theorem far_small (s : SrcD) : Far s (smallS s) 2 := far_pick s 33
def sizeK (k : Int) : Bool := kindS k == 1
def posK (k : Int) : Bool := kindS k == 2
def nuV (k : Int) (s : SrcD) : Nat := bif sizeK k then sizeV (smallV s) else bif posK k then quartV (1 + pickV (smallS s) 8) else bif k == 12 then sixtV (pickV (smallS s) 17 - 8) else smallV s
def nuS (k : Int) (s : SrcD) : SrcD := bif sizeK k then smallS s else bif posK k then pickS (smallS s) 8 else bif k == 12 then pickS (smallS s) 17 else smallS s
theorem far_nu (k : Int) (s : SrcD) : Far s (nuS k s) 4 := by
  unfold nuS
  cases sizeK k with
  | true => exact (far_small s).mono (by omega)
  | false =>
    cases posK k with
    | true => exact (far_small s).trans (far_pick _ 8)
    | false =>
      cases k == 12 with
      | true => exact (far_small s).trans (far_pick _ 17)
      | false => exact (far_small s).mono (by omega)
theorem nu_ok {k : Int} (hk : isK k = true) {s : SrcD} (hb : bytes s.1) : numB k (nuV k s) = true := by
  have b1 := (far_small s).bytes hb
  obtain ⟨a1, a2, a3⟩ := small_fin (pickV_range (s := s) hb (n := 33) (by omega))
  obtain ⟨p1, p2⟩ := pos_fin (pickV_range (s := smallS s) b1 (n := 8) (by omega))
  have t1 := turn_fin (pickV_range (s := smallS s) b1 (n := 17) (by omega))
  unfold numB nuV
  cases h1 : sizeK k with
  | true =>
    have e : kindS k = 1 := by unfold sizeK at h1; simpa using h1
    rw [cond_true, e]
    unfold sgnB smallV
    rw [a2, a3]
    rfl
  | false =>
    cases h2 : posK k with
    | true =>
      have e : kindS k = 2 := by unfold posK at h2; simpa using h2
      rw [cond_true, cond_false, e]
      unfold sgnB
      rw [p1, p2]
      rfl
    | false =>
      have hs : ∀ x, sgnB (kindS k) x = false := fun x => by
        unfold sgnB
        unfold sizeK at h1
        unfold posK at h2
        rw [h1, h2]
        rfl
      rw [hs, cond_false, cond_false]
      cases k == 12 with
      | true => rw [cond_true, t1]; rfl
      | false =>
        rw [cond_false]
        unfold smallV
        rw [a1]; rfl
def nusL : Int → Nat → SrcD → List Nat
  | _, 0, _ => []
  | k, n + 1, s => nuV k s :: nusL k n (nuS k s)
def nusN : Int → Nat → SrcD → SrcD
  | _, 0, s => s
  | k, n + 1, s => nusN k n (nuS k s)
def numsV (k : Int) (s : SrcD) : List Nat := nusL k (kindN k).toNat s
def numsS (k : Int) (s : SrcD) : SrcD := nusN k (kindN k).toNat s
theorem far_nus (k : Int) : ∀ (n : Nat) (s : SrcD), Far s (nusN k n s) (4 * n)
  | 0, s => (Far.refl s).mono (by omega)
  | n + 1, s => ((far_nu k s).trans (far_nus k n (nuS k s))).mono (by omega)
theorem nus_len (k : Int) : ∀ (n : Nat) (s : SrcD), (nusL k n s).length = n
  | 0, _ => rfl
  | n + 1, s => by rw [nusL, List.length_cons, nus_len k n]
theorem nus_ok {k : Int} (hk : isK k = true) : ∀ (n : Nat) {s : SrcD}, bytes s.1 → ∀ x ∈ nusL k n s, numB k x = true
  | 0, s, _, x, h => by cases h
  | n + 1, s, hb, x, h => by
    rw [nusL] at h
    rcases List.mem_cons.1 h with rfl | h
    · exact nu_ok hk hb
    · exact nus_ok hk n ((far_nu k s).bytes hb) x h
theorem kindN_ok (k : Int) : 0 ≤ kindN k ∧ kindN k ≤ 4 := by
  cases h : isK k with
  | false => unfold kindN; rw [kindV_no h]; decide
  | true =>
    rcases kinds h with r | r | r | r | r | r | r | r | r | r | r | r | r | r | r | r | r <;> subst r <;> decide
theorem far_nums (k : Int) (s : SrcD) : Far s (numsS k s) 16 := (far_nus k _ s).mono (by have := kindN_ok k; omega)
theorem nums_ok {k : Int} (hk : isK k = true) {s : SrcD} (hb : bytes s.1) : numsB k (numsV k s) = true := by
  have := kindN_ok k
  exact nums_of hk (by unfold numsV; rw [nus_len]; omega) (nus_ok hk _ hb)

def dn2 (f : List Int) (s : SrcD) : Bool := decide (2 ≤ f.length) && pickV (pickS s 5) 2 == 0
def dnS1 (f : List Int) (s : SrcD) : SrcD := bif decide (2 ≤ f.length) then pickS (pickS s 5) 2 else pickS s 5
def dn1 (f : List Int) (s : SrcD) : Bool := decide (1 ≤ f.length) && pickV (dnS1 f s) 2 == 0
def dnS2 (f : List Int) (s : SrcD) : SrcD := bif decide (1 ≤ f.length) then pickS (dnS1 f s) 2 else dnS1 f s
def dnK (f : List Int) (s : SrcD) : Int := bif dn2 f s then 5 + pickV (dnS1 f s) 4 else bif dn1 f s then 9 + pickV (dnS2 f s) 8 else pickV s 5
def dnX (f : List Int) (s : SrcD) : Bool := inR (dnK f s) 12 14
def dnT (f : List Int) (s : SrcD) : SrcD := bif dn2 f s then pickS (dnS1 f s) 4 else bif dn1 f s then (bif dnX f s then pickS (pickS (dnS2 f s) 8) 3 else pickS (dnS2 f s) 8) else dnS2 f s
def at2 (f : List Int) (i : Nat) : Int := (f[f.length - i]?).getD 0
def dnA (f : List Int) (s : SrcD) : Int := bif dn2 f s then at2 f 2 else bif dn1 f s then at2 f 1 else 0
def dnB (f : List Int) (s : SrcD) : Int := bif dn2 f s then at2 f 1 else bif dn1 f s then (bif dnX f s then pickV (pickS (dnS2 f s) 8) 3 else 0) else 0
def usedV (f : List Int) (s : SrcD) : Int := bif dn2 f s then 2 else bif dn1 f s then 1 else 0
def nodeV (f : List Int) (s : SrcD) : NodeD := (dnK f s, dnA f s, dnB f s, numsV (dnK f s) (dnT f s))
def nodeS (f : List Int) (s : SrcD) : SrcD := numsS (dnK f s) (dnT f s)
theorem far_S1 (f : List Int) (s : SrcD) : Far s (dnS1 f s) 4 := by
  unfold dnS1
  cases decide (2 ≤ f.length) with
  | true => exact (far_pick s 5).trans (far_pick _ 2)
  | false => exact (far_pick s 5).mono (by omega)
theorem far_S2 (f : List Int) (s : SrcD) : Far s (dnS2 f s) 6 := by
  unfold dnS2
  cases decide (1 ≤ f.length) with
  | true => exact (far_S1 f s).trans (far_pick _ 2)
  | false => exact (far_S1 f s).mono (by omega)
theorem far_T (f : List Int) (s : SrcD) : Far s (dnT f s) 10 := by
  unfold dnT
  cases dn2 f s with
  | true => exact ((far_S1 f s).trans (far_pick _ 4)).mono (by omega)
  | false =>
    cases dn1 f s with
    | true =>
      cases dnX f s with
      | true => exact ((far_S2 f s).trans (far_pick _ 8)).trans (far_pick _ 3)
      | false => exact ((far_S2 f s).trans (far_pick _ 8)).mono (by omega)
    | false => exact (far_S2 f s).mono (by omega)
theorem far_node (f : List Int) (s : SrcD) : Far s (nodeS f s) 26 := (far_T f s).trans (far_nums _ _)
theorem dnK_range (f : List Int) {s : SrcD} (hb : bytes s.1) : (dn2 f s = true → 5 ≤ dnK f s ∧ dnK f s ≤ 8) ∧ (dn2 f s = false → dn1 f s = true → 9 ≤ dnK f s ∧ dnK f s ≤ 16) ∧ (dn2 f s = false → dn1 f s = false → 0 ≤ dnK f s ∧ dnK f s ≤ 4) := by
  have r1 := pickV_range (s := dnS1 f s) ((far_S1 f s).bytes hb) (n := 4) (by omega)
  have r2 := pickV_range (s := dnS2 f s) ((far_S2 f s).bytes hb) (n := 8) (by omega)
  have r3 := pickV_range (s := s) hb (n := 5) (by omega)
  unfold dnK
  refine ⟨fun h => ?_, fun h h' => ?_, fun h h' => ?_⟩
  · rw [h, cond_true]; omega
  · rw [h, h', cond_true, cond_false]; omega
  · rw [h, h', cond_false, cond_false]; omega
theorem dnK_is (f : List Int) {s : SrcD} (hb : bytes s.1) : isK (dnK f s) = true := by
  obtain ⟨h1, h2, h3⟩ := dnK_range f hb
  refine inR_iff.2 ?_
  cases e : dn2 f s with
  | true => have := h1 e; omega
  | false =>
    cases e2 : dn1 f s with
    | true => have := h2 e e2; omega
    | false => have := h3 e e2; omega
theorem kinds_two : ∀ k : Int, 5 ≤ k ∧ k ≤ 8 → kindC k = 2 := fun k h => by
  have : k = 5 ∨ k = 6 ∨ k = 7 ∨ k = 8 := by omega
  rcases this with r | r | r | r <;> subst r <;> decide
theorem kinds_one : ∀ k : Int, 9 ≤ k ∧ k ≤ 16 → kindC k = 1 ∧ (inR k 12 14 = true → kindA k = true) := fun k h => by
  have : k = 9 ∨ k = 10 ∨ k = 11 ∨ k = 12 ∨ k = 13 ∨ k = 14 ∨ k = 15 ∨ k = 16 := by omega
  rcases this with r | r | r | r | r | r | r | r <;> subst r <;> decide
theorem kinds_leaf : ∀ k : Int, 0 ≤ k ∧ k ≤ 4 → kindC k = 0 := fun k h => by
  have : k = 0 ∨ k = 1 ∨ k = 2 ∨ k = 3 ∨ k = 4 := by omega
  rcases this with r | r | r | r | r <;> subst r <;> decide
theorem last2 (f : List Int) (h : 2 ≤ f.length) : f = f.take (f.length - 2) ++ [at2 f 2, at2 f 1] := by
  have h1 : f.length - 2 < f.length := by omega
  have h2 : f.length - 1 < f.length := by omega
  conv => lhs; rw [← List.take_append_drop (f.length - 2) f]
  rw [List.drop_eq_getElem_cons h1]
  have e : f.length - 2 + 1 = f.length - 1 := by omega
  rw [e, List.drop_eq_getElem_cons h2, List.drop_of_length_le (by omega)]
  unfold at2
  rw [get_lt h1, get_lt h2]
  rfl
theorem last1 (f : List Int) (h : 1 ≤ f.length) : f = f.take (f.length - 1) ++ [at2 f 1] := by
  have h2 : f.length - 1 < f.length := by omega
  conv => lhs; rw [← List.take_append_drop (f.length - 1) f]
  rw [List.drop_eq_getElem_cons h2, List.drop_of_length_le (by omega)]
  unfold at2
  rw [get_lt h2]
  rfl
theorem used_range (f : List Int) (s : SrcD) : 0 ≤ usedV f s ∧ usedV f s ≤ f.length := by
  unfold usedV dn2 dn1
  by_cases h2 : 2 ≤ f.length
  · cases pickV (pickS s 5) 2 == 0 <;> cases pickV (dnS1 f s) 2 == 0 <;> simp only [d_t h2, d_t (show 1 ≤ f.length by omega), Bool.and_true, Bool.and_false, cond_true, cond_false] <;> omega
  · by_cases h1 : 1 ≤ f.length
    · cases pickV (dnS1 f s) 2 == 0 <;> simp only [d_f h2, d_t h1, Bool.and_true, Bool.and_false, Bool.false_and, cond_true, cond_false] <;> omega
    · simp only [d_f h2, d_f h1, Bool.false_and, cond_false]; omega
theorem at2_mem (f : List Int) (i : Nat) (h1 : 1 ≤ i) (h : i ≤ f.length) : at2 f i ∈ f := by
  unfold at2
  rw [get_lt (show f.length - i < f.length by omega)]
  exact List.getElem_mem _
theorem stack_node {ns : List NodeD} {f : List Int} (h : Stack ns f) {s : SrcD} (hb : bytes s.1) : Stack (ns ++ [nodeV f s]) (f.take ((f.length : Int) - usedV f s).toNat ++ [(ns.length : Int)]) := by
  obtain ⟨h1, h2, h3⟩ := dnK_range f hb
  have hk := dnK_is f hb
  have hn := nums_ok hk ((far_T f s).bytes hb)
  have kid : ∀ c ∈ f, inR c 0 ((ns.length : Int) - 1) = true := fun c hc => by
    have := h.free c hc
    exact inR_iff.2 (by omega)
  unfold usedV
  cases e : dn2 f s with
  | true =>
    have hl : 2 ≤ f.length := by unfold dn2 at e; simp only [Bool.and_eq_true, decide_eq_true_eq] at e; exact e.1
    have hc := kinds_two _ (h1 e)
    have hkid : kidsN (nodeV f s) = [at2 f 2, at2 f 1] := by
      show kids (dnK f s) (dnA f s) (dnB f s) = _
      unfold kids dnA dnB
      rw [hc, e]
      rfl
    have hsp := last2 f hl
    rw [cond_true, show ((f.length : Int) - 2).toNat = f.length - 2 by omega]
    refine h.push (by rw [hkid]; exact hsp) ?_
    unfold nodeB
    rw [hkid]
    show (numsB (dnK f s) (numsV (dnK f s) (dnT f s)) && (axB (dnK f s) (dnA f s) (dnB f s) && _)) = true
    rw [hn]
    unfold axB
    rw [hc]
    simp only [List.all_cons, List.all_nil, Bool.and_true, Bool.true_and]
    rw [kid _ (at2_mem f 2 (by omega) hl), kid _ (at2_mem f 1 (by omega) (by omega))]
    rfl
  | false =>
    cases e2 : dn1 f s with
    | true =>
      have hl : 1 ≤ f.length := by unfold dn1 at e2; simp only [Bool.and_eq_true, decide_eq_true_eq] at e2; exact e2.1
      obtain ⟨hc, hax⟩ := kinds_one _ (h2 e e2)
      have hkid : kidsN (nodeV f s) = [at2 f 1] := by
        show kids (dnK f s) (dnA f s) (dnB f s) = _
        unfold kids dnA
        rw [hc, e, e2]
        rfl
      have hsp := last1 f hl
      rw [cond_true, cond_false, show ((f.length : Int) - 1).toNat = f.length - 1 by omega]
      refine h.push (by rw [hkid]; exact hsp) ?_
      unfold nodeB
      rw [hkid]
      show (numsB (dnK f s) (numsV (dnK f s) (dnT f s)) && (axB (dnK f s) (dnA f s) (dnB f s) && _)) = true
      have hbx : axB (dnK f s) (dnA f s) (dnB f s) = true := by
        unfold axB
        rw [hc]
        unfold dnB
        rw [e, e2]
        simp only [cond_true, cond_false]
        cases ex : dnX f s with
        | true =>
          have r3 := pickV_range (s := pickS (dnS2 f s) 8) (((far_S2 f s).trans (far_pick _ 8)).bytes hb) (n := 3) (by omega)
          rw [cond_true, hax ex, inR_iff.2 (show 0 ≤ pickV (pickS (dnS2 f s) 8) 3 ∧ pickV (pickS (dnS2 f s) 8) 3 ≤ 2 by omega)]
          simp
        | false => rw [cond_false]; rfl
      rw [hn, hbx]
      simp only [List.all_cons, List.all_nil, Bool.and_true, Bool.true_and]
      exact kid _ (at2_mem f 1 (by omega) hl)
    | false =>
      have hc := kinds_leaf _ (h3 e e2)
      have hkid : kidsN (nodeV f s) = [] := by
        show kids (dnK f s) (dnA f s) (dnB f s) = _
        unfold kids
        rw [hc]
        rfl
      rw [cond_false, cond_false, show ((f.length : Int) - 0).toNat = f.length by omega, List.take_length]
      refine h.push (by rw [hkid, List.append_nil]) ?_
      unfold nodeB
      rw [hkid]
      show (numsB (dnK f s) (numsV (dnK f s) (dnT f s)) && (axB (dnK f s) (dnA f s) (dnB f s) && _)) = true
      have hbx : axB (dnK f s) (dnA f s) (dnB f s) = true := by
        unfold axB
        rw [hc]
        unfold dnA dnB
        rw [e, e2]
        rfl
      rw [hn, hbx]
      rfl

abbrev ShD := List NodeD × List Int × SrcD
def shStep (q : ShD) : ShD := (q.1 ++ [nodeV q.2.1 q.2.2], q.2.1.take ((q.2.1.length : Int) - usedV q.2.1 q.2.2).toNat ++ [(q.1.length : Int)], nodeS q.2.1 q.2.2)
def shGo : Nat → ShD → ShD
  | 0, q => q
  | n + 1, q => shGo n (shStep q)
def clNode (q : ShD) : NodeD := (5 + pickV q.2.2 3, at2 q.2.1 2, at2 q.2.1 1, [])
def clStep (q : ShD) : ShD := (q.1 ++ [clNode q], q.2.1.take (q.2.1.length - 2) ++ [(q.1.length : Int)], pickS q.2.2 3)
def clGo : Nat → ShD → ShD
  | 0, q => q
  | n + 1, q => clGo n (clStep q)
def sh0 (s : SrcD) : ShD := ([], [], pickS s 7)
def sh1 (s : SrcD) : ShD := shGo (1 + pickV s 7).toNat (sh0 s)
def sh2 (s : SrcD) : ShD := clGo ((sh1 s).2.1.length - 1) (sh1 s)
def shapeV (s : SrcD) : List NodeD := (sh2 s).1
def shapeS (s : SrcD) : SrcD := (sh2 s).2.2
structure ShOk (q : ShD) (n : Nat) : Prop where
  st : Stack q.1 q.2.1
  b : bytes q.2.2.1
  l : q.1.length = n
theorem shStep_ok {q : ShD} {n : Nat} (h : ShOk q n) : ShOk (shStep q) (n + 1) := ⟨stack_node h.st h.b, (far_node _ _).bytes h.b, by show (q.1 ++ [_]).length = _; rw [List.length_append, h.l]; rfl⟩
theorem clStep_ok {q : ShD} {n : Nat} (h : ShOk q n) (hf : 2 ≤ q.2.1.length) : ShOk (clStep q) (n + 1) := by
  refine ⟨?_, (far_pick _ _).bytes h.b, by show (q.1 ++ [_]).length = _; rw [List.length_append, h.l]; rfl⟩
  have r := pickV_range (s := q.2.2) h.b (n := 3) (by omega)
  have hc := kinds_two (5 + pickV q.2.2 3) (by omega)
  have hsp := last2 q.2.1 hf
  have hkid : kidsN (clNode q) = [at2 q.2.1 2, at2 q.2.1 1] := by
    show kids (5 + pickV q.2.2 3) _ _ = _
    unfold kids
    rw [hc]
    rfl
  have kid : ∀ c ∈ q.2.1, inR c 0 ((q.1.length : Int) - 1) = true := fun c hc => by
    have := h.st.free c hc
    exact inR_iff.2 (by omega)
  refine h.st.push (by rw [hkid]; exact hsp) ?_
  unfold nodeB
  rw [hkid]
  have hn : numsB (clNode q).1 (clNode q).2.2.2 = true := by
    have : 5 + pickV q.2.2 3 = 5 ∨ 5 + pickV q.2.2 3 = 6 ∨ 5 + pickV q.2.2 3 = 7 := by omega
    show numsB (5 + pickV q.2.2 3) [] = true
    rcases this with e | e | e <;> rw [e] <;> decide
  have hbx : axB (clNode q).1 (clNode q).2.1 (clNode q).2.2.1 = true := by
    show axB (5 + pickV q.2.2 3) _ _ = true
    unfold axB
    rw [hc]
    rfl
  rw [hn, hbx]
  simp only [List.all_cons, List.all_nil, Bool.and_true, Bool.true_and]
  rw [kid _ (at2_mem q.2.1 2 (by omega) hf), kid _ (at2_mem q.2.1 1 (by omega) (by omega))]
  rfl
theorem shGo_ok : ∀ (m : Nat) {q : ShD} {n : Nat}, ShOk q n → ShOk (shGo m q) (n + m)
  | 0, _, _, h => h
  | m + 1, q, n, h => by have := shGo_ok m (shStep_ok h); rw [show n + 1 + m = n + (m + 1) by omega] at this; exact this
theorem clStep_free (q : ShD) (hf : 2 ≤ q.2.1.length) : (clStep q).2.1.length = q.2.1.length - 1 := by
  show (q.2.1.take (q.2.1.length - 2) ++ [(q.1.length : Int)]).length = _
  rw [List.length_append, List.length_take, List.length_singleton]
  omega
theorem clGo_ok : ∀ (m : Nat) {q : ShD} {n : Nat}, ShOk q n → q.2.1.length = m + 1 → ShOk (clGo m q) (n + m) ∧ (clGo m q).2.1.length = 1
  | 0, _, _, h, e => ⟨h, e⟩
  | m + 1, q, n, h, e => by
    have := clGo_ok m (clStep_ok h (by omega)) (by rw [clStep_free q (by omega)]; omega)
    rw [show n + 1 + m = n + (m + 1) by omega] at this
    exact this
theorem far_shGo : ∀ (m : Nat) (q : ShD), Far q.2.2 (shGo m q).2.2 (26 * m)
  | 0, q => (Far.refl _).mono (by omega)
  | m + 1, q => ((far_node q.2.1 q.2.2).trans (far_shGo m (shStep q))).mono (by omega)
theorem far_clGo : ∀ (m : Nat) (q : ShD), Far q.2.2 (clGo m q).2.2 (2 * m)
  | 0, q => (Far.refl _).mono (by omega)
  | m + 1, q => ((far_pick q.2.2 3).trans (far_clGo m (clStep q))).mono (by omega)
theorem sh0_ok {s : SrcD} (hb : bytes s.1) : ShOk (sh0 s) 0 := ⟨stack_nil, (far_pick s 7).bytes hb, rfl⟩
theorem sh1_ok {s : SrcD} (hb : bytes s.1) : ∃ n : Nat, (1 + pickV s 7) = (n : Int) ∧ 1 ≤ n ∧ n ≤ 7 ∧ ShOk (sh1 s) n ∧ 1 ≤ (sh1 s).2.1.length ∧ (sh1 s).2.1.length ≤ n := by
  have r := pickV_range (s := s) hb (n := 7) (by omega)
  refine ⟨(1 + pickV s 7).toNat, by omega, by omega, by omega, ?_, ?_, ?_⟩
  · have := shGo_ok (1 + pickV s 7).toNat (sh0_ok hb)
    rw [Nat.zero_add] at this
    exact this
  · have h := shGo_ok (1 + pickV s 7).toNat (sh0_ok hb)
    have hne : (sh1 s).1 ≠ [] := fun e => by
      have := h.l
      have e2 : (shGo (1 + pickV s 7).toNat (sh0 s)).1 = [] := e
      rw [e2] at this
      simp at this
      omega
    have := h.st.last hne
    show 1 ≤ (shGo (1 + pickV s 7).toNat (sh0 s)).2.1.length
    cases e : (shGo (1 + pickV s 7).toNat (sh0 s)).2.1 with
    | nil => rw [e] at this; simp at this
    | cons _ _ => simp
  · have h := shGo_ok (1 + pickV s 7).toNat (sh0_ok hb)
    have := h.st.len
    rw [h.l] at this
    show (shGo (1 + pickV s 7).toNat (sh0 s)).2.1.length ≤ _
    omega
theorem shape_ok {s : SrcD} (hb : bytes s.1) : validS (shapeV s) = true := by
  obtain ⟨n, e, n1, n2, h, f1, f2⟩ := sh1_ok hb
  obtain ⟨h2, h3⟩ := clGo_ok ((sh1 s).2.1.length - 1) h (by omega)
  obtain ⟨r, hr⟩ := List.length_eq_one_iff.1 h3
  have hs := h2.st
  rw [hr] at hs
  have hl := h2.l
  exact hs.valid (by omega) (by omega)
theorem far_shape {s : SrcD} (hb : bytes s.1) : Far s (shapeS s) 210 := by
  obtain ⟨n, e, n1, n2, h, f1, f2⟩ := sh1_ok hb
  have a1 := far_shGo (1 + pickV s 7).toNat (sh0 s)
  have a2 := far_clGo ((sh1 s).2.1.length - 1) (sh1 s)
  exact (((far_pick s 7).trans a1).trans a2).mono (by omega)

end Go.Proofs.Ytfhpmcdbfebflaa

/- What the laws draw: walks of shapes. -/
set_option linter.unusedVariables false
set_option linter.unusedSimpArgs false
set_option maxRecDepth 100000
namespace Go.Proofs.Ytfhpmcdbfebflaa
open Go.Ev

theorem cond_sh {b : Bool} {P Q : Prop} (h : b = true) (hp : P) : cond b P Q := by rw [h]; exact hp

noncomputable def c_spec_l01DrawSmall : Ctx := mkC Try.prog tyT [] [] [(70, s_spec_l00Src_pick)] 8 (fun _ => none) 1
theorem w_spec_l01DrawSmall (s : SrcD) (K : V → Heap → Prop) : wpFnO c_spec_l01DrawSmall Try.f69 (.ptr 0 0 :: encAs [] ()) [.box (enc tSrc s)] K =
 cond (srcIn 6 s)
 (K (.float .f32 (fdiv FloatKind.f32 (FloatKind.nearest FloatKind.f32 (IntKind.wrap IntKind.i64 (pickV s 33 - 16))) 1082130432)) [(.box [(.vec (.int .u8) (Prod.fst (pickS s 33))), (.int .i64 (Prod.fst (Prod.snd (pickS s 33)))), (.int .u64 (Prod.snd (Prod.snd (pickS s 33))))])])
 (False) := by kernel_rfl
noncomputable def s_spec_l01DrawSmall : Sm := semP tSrc [] (fun s x => match x with | _ => inS 1000000 s) fun s x => match x with | _ => (.float .f32 (smallV s), smallS s)
theorem ok_spec_l01DrawSmall : FnOkL Try.prog 69 s_spec_l01DrawSmall := fnOkO_box (fnOkO_runC (C := c_spec_l01DrawSmall) rfl mixed .nil .nil (.cons ok_spec_l00Src_pick .nil) Try.func69 (by kernel_rfl)) fun (s : SrcD) (x : Unit) ws wf hg K h => by
  obtain ⟨⟩ := x
  replace hg : (inS 1000000 s) = true := hg
  replace h : K (.float .f32 (smallV s)) [.box (enc tSrc (smallS s))] := h
  rw [w_spec_l01DrawSmall s  K]
  have hb : bytes s.1 := bytes_of ws.1
  have r := pickV_range (s := s) hb (n := 33) (by omega)
  rw [inS_src hg (by omega) 6 (by omega), i64_of (n := pickV s 33 - 16) (by omega) (by omega)]
  exact h

noncomputable def c_spec_l02Size : Ctx := mkC Try.prog tyT [] [] [] 8 (fun _ => none) 0
theorem w_spec_l02Size (x : Nat) (K : V → Heap → Prop) : wpFn c_spec_l02Size Try.f174 (encAs [.cell tF] (x, ())) [] K =
 cond (fle FloatKind.f32 x 0)
 (K (.float .f32 (fsub FloatKind.f32 0 x)) [])
 (K (.float .f32 (x)) []) := by kernel_rfl
noncomputable def s_spec_l02Size : Sm := semT [.cell tF] fun x => match x with | (x, _) => .float .f32 (sizeV x)
theorem ok_spec_l02Size : FnOk Try.prog 174 s_spec_l02Size := fnOk_typed (fnOk_runC (C := c_spec_l02Size) rfl mixed .nil .nil .nil Try.func174 (by kernel_rfl)) fun (x : ((Nat) × Unit)) wf K h => by
  obtain ⟨x, ⟨⟩⟩ := x
  replace h : K (.float .f32 (sizeV x)) [] := h
  rw [w_spec_l02Size x K]
  unfold sizeV at h
  revert h
  cases fle .f32 x 0 <;> exact id

noncomputable def c_spec_l00Own : Ctx := mkC Try.prog tyT [] [] [] 6 (fun _ => none) 0
noncomputable def gp_spec_l00Own : List (List (Option Ty)) := List.map giveR [.cell (.own tI)]
theorem w_spec_l00Own (fs : List Int) (K : V → Heap → Prop) : wpFnG gp_spec_l00Own c_spec_l00Own Try.f134 (encAs [.cell (.slice tI)] (fs, ())) [] K =
 cond (decide ((0 + List.length fs) * 8 ≤ 140737488355328))
 (K (.obj 0 0) [(.sl 0 (.int .i64) ([] ++ fs))])
 (False) := by kernel_rfl
noncomputable def s_spec_l00Own : Sm := semV [.cell (.slice tI)] [.cell (.own tI)] (fun x => match x with | (fs, _) => decide (fs.length ≤ 1000)) fun x => match x with | (fs, _) => (fs, ())
theorem ok_spec_l00Own : FnOkL Try.prog 134 s_spec_l00Own := fnOkO_give (fnOkO_runG (C := c_spec_l00Own) gp_spec_l00Own rfl mixed .nil .nil .nil Try.func134 (by kernel_rfl)) rfl fun (x : ((List Int) × Unit)) wf hg K h => by
  obtain ⟨fs, ⟨⟩⟩ := x
  replace hg : (decide (fs.length ≤ 1000)) = true := hg
  replace h : K (tup (valRs [.cell (.own tI)] ((fs, ())) 0)) (thRs [.cell (.own tI)] ((fs, ()))) := h
  rw [w_spec_l00Own fs K]
  have hg := of_decide_eq_true hg
  exact cond_sh (decide_eq_true (by omega)) h

noncomputable def a_spec_l02DrawNumbers : Nat → Option Ann := fun n => bif Nat.beq n 3 then some ⟨[0,1,5,6],1,true⟩ else none
noncomputable def c_spec_l02DrawNumbers : Ctx := mkC Try.prog tyT [(174, s_spec_l02Size), (129, s_spec_l02Count)] [] [(69, s_spec_l01DrawSmall), (70, s_spec_l00Src_pick)] 48 a_spec_l02DrawNumbers 1
noncomputable def gp_spec_l02DrawNumbers : List (List (Option Ty)) := List.map giveR [.cell (.own tF)]
noncomputable def fr_spec_l02DrawNumbers_3 (s : SrcD) (k c : Int) (xs : List Nat) : Fr := [(0, .ptr 0 0), (1, .int .i64 k), (5, .obj 1 0), (6, .int .i64 c)]
noncomputable def hp_spec_l02DrawNumbers_3 (s : SrcD) (k c : Int) (xs : List Nat) : Heap := [.box (enc tSrc s), .sl 0 tF xs]
theorem r_spec_l02DrawNumbers_3 (s : SrcD) (k c : Int) (xs : List Nat) (Kn : Fr → Heap → Prop) (K : V → Heap → Prop) : round c_spec_l02DrawNumbers ⟨[0,1,5,6],1,true⟩ (lb c_spec_l02DrawNumbers 3 Try.f159) (fr_spec_l02DrawNumbers_3 s k c xs) (hp_spec_l02DrawNumbers_3 s k c xs) Kn (lkG gp_spec_l02DrawNumbers c_spec_l02DrawNumbers 3 Try.f159 [.box []] K) =
 cond (decide (c > 0))
 (cond (inS 1000000 s)
 (cond (k == 0)
 (cond (k == 0)
 (cond (decide ((List.length xs + 1) * 4 ≤ 140737488355328))
 (Kn [(0, (.ptr 0 0)), (1, (.int .i64 (k))), (5, (.obj 1 0)), (6, (.int .i64 (IntKind.wrap IntKind.i64 (c - 1))))] [(.box [(.vec (.int .u8) (Prod.fst (smallS s))), (.int .i64 (Prod.fst (Prod.snd (smallS s)))), (.int .u64 (Prod.snd (Prod.snd (smallS s))))]), (.sl 0 (.float .f32) (xs ++ [sizeV (smallV s)]))])
 (False))
 (cond (k == 8)
 (cond (k == 8)
 (cond (srcIn 6 (smallS s))
 (cond (decide ((List.length xs + 1) * 4 ≤ 140737488355328))
 (Kn [(0, (.ptr 0 0)), (1, (.int .i64 (k))), (5, (.obj 1 0)), (6, (.int .i64 (IntKind.wrap IntKind.i64 (c - 1))))] [(.box [(.vec (.int .u8) (Prod.fst (pickS (smallS s) 8))), (.int .i64 (Prod.fst (Prod.snd (pickS (smallS s) 8)))), (.int .u64 (Prod.snd (Prod.snd (pickS (smallS s) 8))))]), (.sl 0 (.float .f32) (xs ++ [fdiv FloatKind.f32 (FloatKind.nearest FloatKind.f32 (IntKind.wrap IntKind.i64 (1 + pickV (smallS s) 8))) 1082130432]))])
 (False))
 (False))
 (cond (k == 12)
 (cond (srcIn 6 (smallS s))
 (cond (decide ((List.length xs + 1) * 4 ≤ 140737488355328))
 (Kn [(0, (.ptr 0 0)), (1, (.int .i64 (k))), (5, (.obj 1 0)), (6, (.int .i64 (IntKind.wrap IntKind.i64 (c - 1))))] [(.box [(.vec (.int .u8) (Prod.fst (pickS (smallS s) 17))), (.int .i64 (Prod.fst (Prod.snd (pickS (smallS s) 17)))), (.int .u64 (Prod.snd (Prod.snd (pickS (smallS s) 17))))]), (.sl 0 (.float .f32) (xs ++ [fdiv FloatKind.f32 (FloatKind.nearest FloatKind.f32 (IntKind.wrap IntKind.i64 (pickV (smallS s) 17 - 8))) 1098907648]))])
 (False))
 (False))
 (cond (decide ((List.length xs + 1) * 4 ≤ 140737488355328))
 (Kn [(0, (.ptr 0 0)), (1, (.int .i64 (k))), (5, (.obj 1 0)), (6, (.int .i64 (IntKind.wrap IntKind.i64 (c - 1))))] [(.box [(.vec (.int .u8) (Prod.fst (smallS s))), (.int .i64 (Prod.fst (Prod.snd (smallS s)))), (.int .u64 (Prod.snd (Prod.snd (smallS s))))]), (.sl 0 (.float .f32) (xs ++ [smallV s]))])
 (False))))
 (cond (k == 10)
 (cond (k == 10)
 (cond (srcIn 6 (smallS s))
 (cond (decide ((List.length xs + 1) * 4 ≤ 140737488355328))
 (Kn [(0, (.ptr 0 0)), (1, (.int .i64 (k))), (5, (.obj 1 0)), (6, (.int .i64 (IntKind.wrap IntKind.i64 (c - 1))))] [(.box [(.vec (.int .u8) (Prod.fst (pickS (smallS s) 8))), (.int .i64 (Prod.fst (Prod.snd (pickS (smallS s) 8)))), (.int .u64 (Prod.snd (Prod.snd (pickS (smallS s) 8))))]), (.sl 0 (.float .f32) (xs ++ [fdiv FloatKind.f32 (FloatKind.nearest FloatKind.f32 (IntKind.wrap IntKind.i64 (1 + pickV (smallS s) 8))) 1082130432]))])
 (False))
 (False))
 (cond (k == 12)
 (cond (srcIn 6 (smallS s))
 (cond (decide ((List.length xs + 1) * 4 ≤ 140737488355328))
 (Kn [(0, (.ptr 0 0)), (1, (.int .i64 (k))), (5, (.obj 1 0)), (6, (.int .i64 (IntKind.wrap IntKind.i64 (c - 1))))] [(.box [(.vec (.int .u8) (Prod.fst (pickS (smallS s) 17))), (.int .i64 (Prod.fst (Prod.snd (pickS (smallS s) 17)))), (.int .u64 (Prod.snd (Prod.snd (pickS (smallS s) 17))))]), (.sl 0 (.float .f32) (xs ++ [fdiv FloatKind.f32 (FloatKind.nearest FloatKind.f32 (IntKind.wrap IntKind.i64 (pickV (smallS s) 17 - 8))) 1098907648]))])
 (False))
 (False))
 (cond (decide ((List.length xs + 1) * 4 ≤ 140737488355328))
 (Kn [(0, (.ptr 0 0)), (1, (.int .i64 (k))), (5, (.obj 1 0)), (6, (.int .i64 (IntKind.wrap IntKind.i64 (c - 1))))] [(.box [(.vec (.int .u8) (Prod.fst (smallS s))), (.int .i64 (Prod.fst (Prod.snd (smallS s)))), (.int .u64 (Prod.snd (Prod.snd (smallS s))))]), (.sl 0 (.float .f32) (xs ++ [smallV s]))])
 (False))))
 (cond (k == 11)
 (cond (k == 11)
 (cond (srcIn 6 (smallS s))
 (cond (decide ((List.length xs + 1) * 4 ≤ 140737488355328))
 (Kn [(0, (.ptr 0 0)), (1, (.int .i64 (k))), (5, (.obj 1 0)), (6, (.int .i64 (IntKind.wrap IntKind.i64 (c - 1))))] [(.box [(.vec (.int .u8) (Prod.fst (pickS (smallS s) 8))), (.int .i64 (Prod.fst (Prod.snd (pickS (smallS s) 8)))), (.int .u64 (Prod.snd (Prod.snd (pickS (smallS s) 8))))]), (.sl 0 (.float .f32) (xs ++ [fdiv FloatKind.f32 (FloatKind.nearest FloatKind.f32 (IntKind.wrap IntKind.i64 (1 + pickV (smallS s) 8))) 1082130432]))])
 (False))
 (False))
 (cond (k == 12)
 (cond (srcIn 6 (smallS s))
 (cond (decide ((List.length xs + 1) * 4 ≤ 140737488355328))
 (Kn [(0, (.ptr 0 0)), (1, (.int .i64 (k))), (5, (.obj 1 0)), (6, (.int .i64 (IntKind.wrap IntKind.i64 (c - 1))))] [(.box [(.vec (.int .u8) (Prod.fst (pickS (smallS s) 17))), (.int .i64 (Prod.fst (Prod.snd (pickS (smallS s) 17)))), (.int .u64 (Prod.snd (Prod.snd (pickS (smallS s) 17))))]), (.sl 0 (.float .f32) (xs ++ [fdiv FloatKind.f32 (FloatKind.nearest FloatKind.f32 (IntKind.wrap IntKind.i64 (pickV (smallS s) 17 - 8))) 1098907648]))])
 (False))
 (False))
 (cond (decide ((List.length xs + 1) * 4 ≤ 140737488355328))
 (Kn [(0, (.ptr 0 0)), (1, (.int .i64 (k))), (5, (.obj 1 0)), (6, (.int .i64 (IntKind.wrap IntKind.i64 (c - 1))))] [(.box [(.vec (.int .u8) (Prod.fst (smallS s))), (.int .i64 (Prod.fst (Prod.snd (smallS s)))), (.int .u64 (Prod.snd (Prod.snd (smallS s))))]), (.sl 0 (.float .f32) (xs ++ [smallV s]))])
 (False))))
 (cond (k == 14)
 (cond (srcIn 6 (smallS s))
 (cond (decide ((List.length xs + 1) * 4 ≤ 140737488355328))
 (Kn [(0, (.ptr 0 0)), (1, (.int .i64 (k))), (5, (.obj 1 0)), (6, (.int .i64 (IntKind.wrap IntKind.i64 (c - 1))))] [(.box [(.vec (.int .u8) (Prod.fst (pickS (smallS s) 8))), (.int .i64 (Prod.fst (Prod.snd (pickS (smallS s) 8)))), (.int .u64 (Prod.snd (Prod.snd (pickS (smallS s) 8))))]), (.sl 0 (.float .f32) (xs ++ [fdiv FloatKind.f32 (FloatKind.nearest FloatKind.f32 (IntKind.wrap IntKind.i64 (1 + pickV (smallS s) 8))) 1082130432]))])
 (False))
 (False))
 (cond (k == 12)
 (cond (srcIn 6 (smallS s))
 (cond (decide ((List.length xs + 1) * 4 ≤ 140737488355328))
 (Kn [(0, (.ptr 0 0)), (1, (.int .i64 (k))), (5, (.obj 1 0)), (6, (.int .i64 (IntKind.wrap IntKind.i64 (c - 1))))] [(.box [(.vec (.int .u8) (Prod.fst (pickS (smallS s) 17))), (.int .i64 (Prod.fst (Prod.snd (pickS (smallS s) 17)))), (.int .u64 (Prod.snd (Prod.snd (pickS (smallS s) 17))))]), (.sl 0 (.float .f32) (xs ++ [fdiv FloatKind.f32 (FloatKind.nearest FloatKind.f32 (IntKind.wrap IntKind.i64 (pickV (smallS s) 17 - 8))) 1098907648]))])
 (False))
 (False))
 (cond (decide ((List.length xs + 1) * 4 ≤ 140737488355328))
 (Kn [(0, (.ptr 0 0)), (1, (.int .i64 (k))), (5, (.obj 1 0)), (6, (.int .i64 (IntKind.wrap IntKind.i64 (c - 1))))] [(.box [(.vec (.int .u8) (Prod.fst (smallS s))), (.int .i64 (Prod.fst (Prod.snd (smallS s)))), (.int .u64 (Prod.snd (Prod.snd (smallS s))))]), (.sl 0 (.float .f32) (xs ++ [smallV s]))])
 (False))))))))
 (cond (k == 1)
 (cond (k == 1)
 (cond (decide ((List.length xs + 1) * 4 ≤ 140737488355328))
 (Kn [(0, (.ptr 0 0)), (1, (.int .i64 (k))), (5, (.obj 1 0)), (6, (.int .i64 (IntKind.wrap IntKind.i64 (c - 1))))] [(.box [(.vec (.int .u8) (Prod.fst (smallS s))), (.int .i64 (Prod.fst (Prod.snd (smallS s)))), (.int .u64 (Prod.snd (Prod.snd (smallS s))))]), (.sl 0 (.float .f32) (xs ++ [sizeV (smallV s)]))])
 (False))
 (cond (k == 8)
 (cond (k == 8)
 (cond (srcIn 6 (smallS s))
 (cond (decide ((List.length xs + 1) * 4 ≤ 140737488355328))
 (Kn [(0, (.ptr 0 0)), (1, (.int .i64 (k))), (5, (.obj 1 0)), (6, (.int .i64 (IntKind.wrap IntKind.i64 (c - 1))))] [(.box [(.vec (.int .u8) (Prod.fst (pickS (smallS s) 8))), (.int .i64 (Prod.fst (Prod.snd (pickS (smallS s) 8)))), (.int .u64 (Prod.snd (Prod.snd (pickS (smallS s) 8))))]), (.sl 0 (.float .f32) (xs ++ [fdiv FloatKind.f32 (FloatKind.nearest FloatKind.f32 (IntKind.wrap IntKind.i64 (1 + pickV (smallS s) 8))) 1082130432]))])
 (False))
 (False))
 (cond (k == 12)
 (cond (srcIn 6 (smallS s))
 (cond (decide ((List.length xs + 1) * 4 ≤ 140737488355328))
 (Kn [(0, (.ptr 0 0)), (1, (.int .i64 (k))), (5, (.obj 1 0)), (6, (.int .i64 (IntKind.wrap IntKind.i64 (c - 1))))] [(.box [(.vec (.int .u8) (Prod.fst (pickS (smallS s) 17))), (.int .i64 (Prod.fst (Prod.snd (pickS (smallS s) 17)))), (.int .u64 (Prod.snd (Prod.snd (pickS (smallS s) 17))))]), (.sl 0 (.float .f32) (xs ++ [fdiv FloatKind.f32 (FloatKind.nearest FloatKind.f32 (IntKind.wrap IntKind.i64 (pickV (smallS s) 17 - 8))) 1098907648]))])
 (False))
 (False))
 (cond (decide ((List.length xs + 1) * 4 ≤ 140737488355328))
 (Kn [(0, (.ptr 0 0)), (1, (.int .i64 (k))), (5, (.obj 1 0)), (6, (.int .i64 (IntKind.wrap IntKind.i64 (c - 1))))] [(.box [(.vec (.int .u8) (Prod.fst (smallS s))), (.int .i64 (Prod.fst (Prod.snd (smallS s)))), (.int .u64 (Prod.snd (Prod.snd (smallS s))))]), (.sl 0 (.float .f32) (xs ++ [smallV s]))])
 (False))))
 (cond (k == 10)
 (cond (k == 10)
 (cond (srcIn 6 (smallS s))
 (cond (decide ((List.length xs + 1) * 4 ≤ 140737488355328))
 (Kn [(0, (.ptr 0 0)), (1, (.int .i64 (k))), (5, (.obj 1 0)), (6, (.int .i64 (IntKind.wrap IntKind.i64 (c - 1))))] [(.box [(.vec (.int .u8) (Prod.fst (pickS (smallS s) 8))), (.int .i64 (Prod.fst (Prod.snd (pickS (smallS s) 8)))), (.int .u64 (Prod.snd (Prod.snd (pickS (smallS s) 8))))]), (.sl 0 (.float .f32) (xs ++ [fdiv FloatKind.f32 (FloatKind.nearest FloatKind.f32 (IntKind.wrap IntKind.i64 (1 + pickV (smallS s) 8))) 1082130432]))])
 (False))
 (False))
 (cond (k == 12)
 (cond (srcIn 6 (smallS s))
 (cond (decide ((List.length xs + 1) * 4 ≤ 140737488355328))
 (Kn [(0, (.ptr 0 0)), (1, (.int .i64 (k))), (5, (.obj 1 0)), (6, (.int .i64 (IntKind.wrap IntKind.i64 (c - 1))))] [(.box [(.vec (.int .u8) (Prod.fst (pickS (smallS s) 17))), (.int .i64 (Prod.fst (Prod.snd (pickS (smallS s) 17)))), (.int .u64 (Prod.snd (Prod.snd (pickS (smallS s) 17))))]), (.sl 0 (.float .f32) (xs ++ [fdiv FloatKind.f32 (FloatKind.nearest FloatKind.f32 (IntKind.wrap IntKind.i64 (pickV (smallS s) 17 - 8))) 1098907648]))])
 (False))
 (False))
 (cond (decide ((List.length xs + 1) * 4 ≤ 140737488355328))
 (Kn [(0, (.ptr 0 0)), (1, (.int .i64 (k))), (5, (.obj 1 0)), (6, (.int .i64 (IntKind.wrap IntKind.i64 (c - 1))))] [(.box [(.vec (.int .u8) (Prod.fst (smallS s))), (.int .i64 (Prod.fst (Prod.snd (smallS s)))), (.int .u64 (Prod.snd (Prod.snd (smallS s))))]), (.sl 0 (.float .f32) (xs ++ [smallV s]))])
 (False))))
 (cond (k == 11)
 (cond (k == 11)
 (cond (srcIn 6 (smallS s))
 (cond (decide ((List.length xs + 1) * 4 ≤ 140737488355328))
 (Kn [(0, (.ptr 0 0)), (1, (.int .i64 (k))), (5, (.obj 1 0)), (6, (.int .i64 (IntKind.wrap IntKind.i64 (c - 1))))] [(.box [(.vec (.int .u8) (Prod.fst (pickS (smallS s) 8))), (.int .i64 (Prod.fst (Prod.snd (pickS (smallS s) 8)))), (.int .u64 (Prod.snd (Prod.snd (pickS (smallS s) 8))))]), (.sl 0 (.float .f32) (xs ++ [fdiv FloatKind.f32 (FloatKind.nearest FloatKind.f32 (IntKind.wrap IntKind.i64 (1 + pickV (smallS s) 8))) 1082130432]))])
 (False))
 (False))
 (cond (k == 12)
 (cond (srcIn 6 (smallS s))
 (cond (decide ((List.length xs + 1) * 4 ≤ 140737488355328))
 (Kn [(0, (.ptr 0 0)), (1, (.int .i64 (k))), (5, (.obj 1 0)), (6, (.int .i64 (IntKind.wrap IntKind.i64 (c - 1))))] [(.box [(.vec (.int .u8) (Prod.fst (pickS (smallS s) 17))), (.int .i64 (Prod.fst (Prod.snd (pickS (smallS s) 17)))), (.int .u64 (Prod.snd (Prod.snd (pickS (smallS s) 17))))]), (.sl 0 (.float .f32) (xs ++ [fdiv FloatKind.f32 (FloatKind.nearest FloatKind.f32 (IntKind.wrap IntKind.i64 (pickV (smallS s) 17 - 8))) 1098907648]))])
 (False))
 (False))
 (cond (decide ((List.length xs + 1) * 4 ≤ 140737488355328))
 (Kn [(0, (.ptr 0 0)), (1, (.int .i64 (k))), (5, (.obj 1 0)), (6, (.int .i64 (IntKind.wrap IntKind.i64 (c - 1))))] [(.box [(.vec (.int .u8) (Prod.fst (smallS s))), (.int .i64 (Prod.fst (Prod.snd (smallS s)))), (.int .u64 (Prod.snd (Prod.snd (smallS s))))]), (.sl 0 (.float .f32) (xs ++ [smallV s]))])
 (False))))
 (cond (k == 14)
 (cond (srcIn 6 (smallS s))
 (cond (decide ((List.length xs + 1) * 4 ≤ 140737488355328))
 (Kn [(0, (.ptr 0 0)), (1, (.int .i64 (k))), (5, (.obj 1 0)), (6, (.int .i64 (IntKind.wrap IntKind.i64 (c - 1))))] [(.box [(.vec (.int .u8) (Prod.fst (pickS (smallS s) 8))), (.int .i64 (Prod.fst (Prod.snd (pickS (smallS s) 8)))), (.int .u64 (Prod.snd (Prod.snd (pickS (smallS s) 8))))]), (.sl 0 (.float .f32) (xs ++ [fdiv FloatKind.f32 (FloatKind.nearest FloatKind.f32 (IntKind.wrap IntKind.i64 (1 + pickV (smallS s) 8))) 1082130432]))])
 (False))
 (False))
 (cond (k == 12)
 (cond (srcIn 6 (smallS s))
 (cond (decide ((List.length xs + 1) * 4 ≤ 140737488355328))
 (Kn [(0, (.ptr 0 0)), (1, (.int .i64 (k))), (5, (.obj 1 0)), (6, (.int .i64 (IntKind.wrap IntKind.i64 (c - 1))))] [(.box [(.vec (.int .u8) (Prod.fst (pickS (smallS s) 17))), (.int .i64 (Prod.fst (Prod.snd (pickS (smallS s) 17)))), (.int .u64 (Prod.snd (Prod.snd (pickS (smallS s) 17))))]), (.sl 0 (.float .f32) (xs ++ [fdiv FloatKind.f32 (FloatKind.nearest FloatKind.f32 (IntKind.wrap IntKind.i64 (pickV (smallS s) 17 - 8))) 1098907648]))])
 (False))
 (False))
 (cond (decide ((List.length xs + 1) * 4 ≤ 140737488355328))
 (Kn [(0, (.ptr 0 0)), (1, (.int .i64 (k))), (5, (.obj 1 0)), (6, (.int .i64 (IntKind.wrap IntKind.i64 (c - 1))))] [(.box [(.vec (.int .u8) (Prod.fst (smallS s))), (.int .i64 (Prod.fst (Prod.snd (smallS s)))), (.int .u64 (Prod.snd (Prod.snd (smallS s))))]), (.sl 0 (.float .f32) (xs ++ [smallV s]))])
 (False))))))))
 (cond (k == 2)
 (cond (k == 2)
 (cond (decide ((List.length xs + 1) * 4 ≤ 140737488355328))
 (Kn [(0, (.ptr 0 0)), (1, (.int .i64 (k))), (5, (.obj 1 0)), (6, (.int .i64 (IntKind.wrap IntKind.i64 (c - 1))))] [(.box [(.vec (.int .u8) (Prod.fst (smallS s))), (.int .i64 (Prod.fst (Prod.snd (smallS s)))), (.int .u64 (Prod.snd (Prod.snd (smallS s))))]), (.sl 0 (.float .f32) (xs ++ [sizeV (smallV s)]))])
 (False))
 (cond (k == 8)
 (cond (k == 8)
 (cond (srcIn 6 (smallS s))
 (cond (decide ((List.length xs + 1) * 4 ≤ 140737488355328))
 (Kn [(0, (.ptr 0 0)), (1, (.int .i64 (k))), (5, (.obj 1 0)), (6, (.int .i64 (IntKind.wrap IntKind.i64 (c - 1))))] [(.box [(.vec (.int .u8) (Prod.fst (pickS (smallS s) 8))), (.int .i64 (Prod.fst (Prod.snd (pickS (smallS s) 8)))), (.int .u64 (Prod.snd (Prod.snd (pickS (smallS s) 8))))]), (.sl 0 (.float .f32) (xs ++ [fdiv FloatKind.f32 (FloatKind.nearest FloatKind.f32 (IntKind.wrap IntKind.i64 (1 + pickV (smallS s) 8))) 1082130432]))])
 (False))
 (False))
 (cond (k == 12)
 (cond (srcIn 6 (smallS s))
 (cond (decide ((List.length xs + 1) * 4 ≤ 140737488355328))
 (Kn [(0, (.ptr 0 0)), (1, (.int .i64 (k))), (5, (.obj 1 0)), (6, (.int .i64 (IntKind.wrap IntKind.i64 (c - 1))))] [(.box [(.vec (.int .u8) (Prod.fst (pickS (smallS s) 17))), (.int .i64 (Prod.fst (Prod.snd (pickS (smallS s) 17)))), (.int .u64 (Prod.snd (Prod.snd (pickS (smallS s) 17))))]), (.sl 0 (.float .f32) (xs ++ [fdiv FloatKind.f32 (FloatKind.nearest FloatKind.f32 (IntKind.wrap IntKind.i64 (pickV (smallS s) 17 - 8))) 1098907648]))])
 (False))
 (False))
 (cond (decide ((List.length xs + 1) * 4 ≤ 140737488355328))
 (Kn [(0, (.ptr 0 0)), (1, (.int .i64 (k))), (5, (.obj 1 0)), (6, (.int .i64 (IntKind.wrap IntKind.i64 (c - 1))))] [(.box [(.vec (.int .u8) (Prod.fst (smallS s))), (.int .i64 (Prod.fst (Prod.snd (smallS s)))), (.int .u64 (Prod.snd (Prod.snd (smallS s))))]), (.sl 0 (.float .f32) (xs ++ [smallV s]))])
 (False))))
 (cond (k == 10)
 (cond (k == 10)
 (cond (srcIn 6 (smallS s))
 (cond (decide ((List.length xs + 1) * 4 ≤ 140737488355328))
 (Kn [(0, (.ptr 0 0)), (1, (.int .i64 (k))), (5, (.obj 1 0)), (6, (.int .i64 (IntKind.wrap IntKind.i64 (c - 1))))] [(.box [(.vec (.int .u8) (Prod.fst (pickS (smallS s) 8))), (.int .i64 (Prod.fst (Prod.snd (pickS (smallS s) 8)))), (.int .u64 (Prod.snd (Prod.snd (pickS (smallS s) 8))))]), (.sl 0 (.float .f32) (xs ++ [fdiv FloatKind.f32 (FloatKind.nearest FloatKind.f32 (IntKind.wrap IntKind.i64 (1 + pickV (smallS s) 8))) 1082130432]))])
 (False))
 (False))
 (cond (k == 12)
 (cond (srcIn 6 (smallS s))
 (cond (decide ((List.length xs + 1) * 4 ≤ 140737488355328))
 (Kn [(0, (.ptr 0 0)), (1, (.int .i64 (k))), (5, (.obj 1 0)), (6, (.int .i64 (IntKind.wrap IntKind.i64 (c - 1))))] [(.box [(.vec (.int .u8) (Prod.fst (pickS (smallS s) 17))), (.int .i64 (Prod.fst (Prod.snd (pickS (smallS s) 17)))), (.int .u64 (Prod.snd (Prod.snd (pickS (smallS s) 17))))]), (.sl 0 (.float .f32) (xs ++ [fdiv FloatKind.f32 (FloatKind.nearest FloatKind.f32 (IntKind.wrap IntKind.i64 (pickV (smallS s) 17 - 8))) 1098907648]))])
 (False))
 (False))
 (cond (decide ((List.length xs + 1) * 4 ≤ 140737488355328))
 (Kn [(0, (.ptr 0 0)), (1, (.int .i64 (k))), (5, (.obj 1 0)), (6, (.int .i64 (IntKind.wrap IntKind.i64 (c - 1))))] [(.box [(.vec (.int .u8) (Prod.fst (smallS s))), (.int .i64 (Prod.fst (Prod.snd (smallS s)))), (.int .u64 (Prod.snd (Prod.snd (smallS s))))]), (.sl 0 (.float .f32) (xs ++ [smallV s]))])
 (False))))
 (cond (k == 11)
 (cond (k == 11)
 (cond (srcIn 6 (smallS s))
 (cond (decide ((List.length xs + 1) * 4 ≤ 140737488355328))
 (Kn [(0, (.ptr 0 0)), (1, (.int .i64 (k))), (5, (.obj 1 0)), (6, (.int .i64 (IntKind.wrap IntKind.i64 (c - 1))))] [(.box [(.vec (.int .u8) (Prod.fst (pickS (smallS s) 8))), (.int .i64 (Prod.fst (Prod.snd (pickS (smallS s) 8)))), (.int .u64 (Prod.snd (Prod.snd (pickS (smallS s) 8))))]), (.sl 0 (.float .f32) (xs ++ [fdiv FloatKind.f32 (FloatKind.nearest FloatKind.f32 (IntKind.wrap IntKind.i64 (1 + pickV (smallS s) 8))) 1082130432]))])
 (False))
 (False))
 (cond (k == 12)
 (cond (srcIn 6 (smallS s))
 (cond (decide ((List.length xs + 1) * 4 ≤ 140737488355328))
 (Kn [(0, (.ptr 0 0)), (1, (.int .i64 (k))), (5, (.obj 1 0)), (6, (.int .i64 (IntKind.wrap IntKind.i64 (c - 1))))] [(.box [(.vec (.int .u8) (Prod.fst (pickS (smallS s) 17))), (.int .i64 (Prod.fst (Prod.snd (pickS (smallS s) 17)))), (.int .u64 (Prod.snd (Prod.snd (pickS (smallS s) 17))))]), (.sl 0 (.float .f32) (xs ++ [fdiv FloatKind.f32 (FloatKind.nearest FloatKind.f32 (IntKind.wrap IntKind.i64 (pickV (smallS s) 17 - 8))) 1098907648]))])
 (False))
 (False))
 (cond (decide ((List.length xs + 1) * 4 ≤ 140737488355328))
 (Kn [(0, (.ptr 0 0)), (1, (.int .i64 (k))), (5, (.obj 1 0)), (6, (.int .i64 (IntKind.wrap IntKind.i64 (c - 1))))] [(.box [(.vec (.int .u8) (Prod.fst (smallS s))), (.int .i64 (Prod.fst (Prod.snd (smallS s)))), (.int .u64 (Prod.snd (Prod.snd (smallS s))))]), (.sl 0 (.float .f32) (xs ++ [smallV s]))])
 (False))))
 (cond (k == 14)
 (cond (srcIn 6 (smallS s))
 (cond (decide ((List.length xs + 1) * 4 ≤ 140737488355328))
 (Kn [(0, (.ptr 0 0)), (1, (.int .i64 (k))), (5, (.obj 1 0)), (6, (.int .i64 (IntKind.wrap IntKind.i64 (c - 1))))] [(.box [(.vec (.int .u8) (Prod.fst (pickS (smallS s) 8))), (.int .i64 (Prod.fst (Prod.snd (pickS (smallS s) 8)))), (.int .u64 (Prod.snd (Prod.snd (pickS (smallS s) 8))))]), (.sl 0 (.float .f32) (xs ++ [fdiv FloatKind.f32 (FloatKind.nearest FloatKind.f32 (IntKind.wrap IntKind.i64 (1 + pickV (smallS s) 8))) 1082130432]))])
 (False))
 (False))
 (cond (k == 12)
 (cond (srcIn 6 (smallS s))
 (cond (decide ((List.length xs + 1) * 4 ≤ 140737488355328))
 (Kn [(0, (.ptr 0 0)), (1, (.int .i64 (k))), (5, (.obj 1 0)), (6, (.int .i64 (IntKind.wrap IntKind.i64 (c - 1))))] [(.box [(.vec (.int .u8) (Prod.fst (pickS (smallS s) 17))), (.int .i64 (Prod.fst (Prod.snd (pickS (smallS s) 17)))), (.int .u64 (Prod.snd (Prod.snd (pickS (smallS s) 17))))]), (.sl 0 (.float .f32) (xs ++ [fdiv FloatKind.f32 (FloatKind.nearest FloatKind.f32 (IntKind.wrap IntKind.i64 (pickV (smallS s) 17 - 8))) 1098907648]))])
 (False))
 (False))
 (cond (decide ((List.length xs + 1) * 4 ≤ 140737488355328))
 (Kn [(0, (.ptr 0 0)), (1, (.int .i64 (k))), (5, (.obj 1 0)), (6, (.int .i64 (IntKind.wrap IntKind.i64 (c - 1))))] [(.box [(.vec (.int .u8) (Prod.fst (smallS s))), (.int .i64 (Prod.fst (Prod.snd (smallS s)))), (.int .u64 (Prod.snd (Prod.snd (smallS s))))]), (.sl 0 (.float .f32) (xs ++ [smallV s]))])
 (False))))))))
 (cond (k == 3)
 (cond (k == 3)
 (cond (decide ((List.length xs + 1) * 4 ≤ 140737488355328))
 (Kn [(0, (.ptr 0 0)), (1, (.int .i64 (k))), (5, (.obj 1 0)), (6, (.int .i64 (IntKind.wrap IntKind.i64 (c - 1))))] [(.box [(.vec (.int .u8) (Prod.fst (smallS s))), (.int .i64 (Prod.fst (Prod.snd (smallS s)))), (.int .u64 (Prod.snd (Prod.snd (smallS s))))]), (.sl 0 (.float .f32) (xs ++ [sizeV (smallV s)]))])
 (False))
 (cond (k == 8)
 (cond (k == 8)
 (cond (srcIn 6 (smallS s))
 (cond (decide ((List.length xs + 1) * 4 ≤ 140737488355328))
 (Kn [(0, (.ptr 0 0)), (1, (.int .i64 (k))), (5, (.obj 1 0)), (6, (.int .i64 (IntKind.wrap IntKind.i64 (c - 1))))] [(.box [(.vec (.int .u8) (Prod.fst (pickS (smallS s) 8))), (.int .i64 (Prod.fst (Prod.snd (pickS (smallS s) 8)))), (.int .u64 (Prod.snd (Prod.snd (pickS (smallS s) 8))))]), (.sl 0 (.float .f32) (xs ++ [fdiv FloatKind.f32 (FloatKind.nearest FloatKind.f32 (IntKind.wrap IntKind.i64 (1 + pickV (smallS s) 8))) 1082130432]))])
 (False))
 (False))
 (cond (k == 12)
 (cond (srcIn 6 (smallS s))
 (cond (decide ((List.length xs + 1) * 4 ≤ 140737488355328))
 (Kn [(0, (.ptr 0 0)), (1, (.int .i64 (k))), (5, (.obj 1 0)), (6, (.int .i64 (IntKind.wrap IntKind.i64 (c - 1))))] [(.box [(.vec (.int .u8) (Prod.fst (pickS (smallS s) 17))), (.int .i64 (Prod.fst (Prod.snd (pickS (smallS s) 17)))), (.int .u64 (Prod.snd (Prod.snd (pickS (smallS s) 17))))]), (.sl 0 (.float .f32) (xs ++ [fdiv FloatKind.f32 (FloatKind.nearest FloatKind.f32 (IntKind.wrap IntKind.i64 (pickV (smallS s) 17 - 8))) 1098907648]))])
 (False))
 (False))
 (cond (decide ((List.length xs + 1) * 4 ≤ 140737488355328))
 (Kn [(0, (.ptr 0 0)), (1, (.int .i64 (k))), (5, (.obj 1 0)), (6, (.int .i64 (IntKind.wrap IntKind.i64 (c - 1))))] [(.box [(.vec (.int .u8) (Prod.fst (smallS s))), (.int .i64 (Prod.fst (Prod.snd (smallS s)))), (.int .u64 (Prod.snd (Prod.snd (smallS s))))]), (.sl 0 (.float .f32) (xs ++ [smallV s]))])
 (False))))
 (cond (k == 10)
 (cond (k == 10)
 (cond (srcIn 6 (smallS s))
 (cond (decide ((List.length xs + 1) * 4 ≤ 140737488355328))
 (Kn [(0, (.ptr 0 0)), (1, (.int .i64 (k))), (5, (.obj 1 0)), (6, (.int .i64 (IntKind.wrap IntKind.i64 (c - 1))))] [(.box [(.vec (.int .u8) (Prod.fst (pickS (smallS s) 8))), (.int .i64 (Prod.fst (Prod.snd (pickS (smallS s) 8)))), (.int .u64 (Prod.snd (Prod.snd (pickS (smallS s) 8))))]), (.sl 0 (.float .f32) (xs ++ [fdiv FloatKind.f32 (FloatKind.nearest FloatKind.f32 (IntKind.wrap IntKind.i64 (1 + pickV (smallS s) 8))) 1082130432]))])
 (False))
 (False))
 (cond (k == 12)
 (cond (srcIn 6 (smallS s))
 (cond (decide ((List.length xs + 1) * 4 ≤ 140737488355328))
 (Kn [(0, (.ptr 0 0)), (1, (.int .i64 (k))), (5, (.obj 1 0)), (6, (.int .i64 (IntKind.wrap IntKind.i64 (c - 1))))] [(.box [(.vec (.int .u8) (Prod.fst (pickS (smallS s) 17))), (.int .i64 (Prod.fst (Prod.snd (pickS (smallS s) 17)))), (.int .u64 (Prod.snd (Prod.snd (pickS (smallS s) 17))))]), (.sl 0 (.float .f32) (xs ++ [fdiv FloatKind.f32 (FloatKind.nearest FloatKind.f32 (IntKind.wrap IntKind.i64 (pickV (smallS s) 17 - 8))) 1098907648]))])
 (False))
 (False))
 (cond (decide ((List.length xs + 1) * 4 ≤ 140737488355328))
 (Kn [(0, (.ptr 0 0)), (1, (.int .i64 (k))), (5, (.obj 1 0)), (6, (.int .i64 (IntKind.wrap IntKind.i64 (c - 1))))] [(.box [(.vec (.int .u8) (Prod.fst (smallS s))), (.int .i64 (Prod.fst (Prod.snd (smallS s)))), (.int .u64 (Prod.snd (Prod.snd (smallS s))))]), (.sl 0 (.float .f32) (xs ++ [smallV s]))])
 (False))))
 (cond (k == 11)
 (cond (k == 11)
 (cond (srcIn 6 (smallS s))
 (cond (decide ((List.length xs + 1) * 4 ≤ 140737488355328))
 (Kn [(0, (.ptr 0 0)), (1, (.int .i64 (k))), (5, (.obj 1 0)), (6, (.int .i64 (IntKind.wrap IntKind.i64 (c - 1))))] [(.box [(.vec (.int .u8) (Prod.fst (pickS (smallS s) 8))), (.int .i64 (Prod.fst (Prod.snd (pickS (smallS s) 8)))), (.int .u64 (Prod.snd (Prod.snd (pickS (smallS s) 8))))]), (.sl 0 (.float .f32) (xs ++ [fdiv FloatKind.f32 (FloatKind.nearest FloatKind.f32 (IntKind.wrap IntKind.i64 (1 + pickV (smallS s) 8))) 1082130432]))])
 (False))
 (False))
 (cond (k == 12)
 (cond (srcIn 6 (smallS s))
 (cond (decide ((List.length xs + 1) * 4 ≤ 140737488355328))
 (Kn [(0, (.ptr 0 0)), (1, (.int .i64 (k))), (5, (.obj 1 0)), (6, (.int .i64 (IntKind.wrap IntKind.i64 (c - 1))))] [(.box [(.vec (.int .u8) (Prod.fst (pickS (smallS s) 17))), (.int .i64 (Prod.fst (Prod.snd (pickS (smallS s) 17)))), (.int .u64 (Prod.snd (Prod.snd (pickS (smallS s) 17))))]), (.sl 0 (.float .f32) (xs ++ [fdiv FloatKind.f32 (FloatKind.nearest FloatKind.f32 (IntKind.wrap IntKind.i64 (pickV (smallS s) 17 - 8))) 1098907648]))])
 (False))
 (False))
 (cond (decide ((List.length xs + 1) * 4 ≤ 140737488355328))
 (Kn [(0, (.ptr 0 0)), (1, (.int .i64 (k))), (5, (.obj 1 0)), (6, (.int .i64 (IntKind.wrap IntKind.i64 (c - 1))))] [(.box [(.vec (.int .u8) (Prod.fst (smallS s))), (.int .i64 (Prod.fst (Prod.snd (smallS s)))), (.int .u64 (Prod.snd (Prod.snd (smallS s))))]), (.sl 0 (.float .f32) (xs ++ [smallV s]))])
 (False))))
 (cond (k == 14)
 (cond (srcIn 6 (smallS s))
 (cond (decide ((List.length xs + 1) * 4 ≤ 140737488355328))
 (Kn [(0, (.ptr 0 0)), (1, (.int .i64 (k))), (5, (.obj 1 0)), (6, (.int .i64 (IntKind.wrap IntKind.i64 (c - 1))))] [(.box [(.vec (.int .u8) (Prod.fst (pickS (smallS s) 8))), (.int .i64 (Prod.fst (Prod.snd (pickS (smallS s) 8)))), (.int .u64 (Prod.snd (Prod.snd (pickS (smallS s) 8))))]), (.sl 0 (.float .f32) (xs ++ [fdiv FloatKind.f32 (FloatKind.nearest FloatKind.f32 (IntKind.wrap IntKind.i64 (1 + pickV (smallS s) 8))) 1082130432]))])
 (False))
 (False))
 (cond (k == 12)
 (cond (srcIn 6 (smallS s))
 (cond (decide ((List.length xs + 1) * 4 ≤ 140737488355328))
 (Kn [(0, (.ptr 0 0)), (1, (.int .i64 (k))), (5, (.obj 1 0)), (6, (.int .i64 (IntKind.wrap IntKind.i64 (c - 1))))] [(.box [(.vec (.int .u8) (Prod.fst (pickS (smallS s) 17))), (.int .i64 (Prod.fst (Prod.snd (pickS (smallS s) 17)))), (.int .u64 (Prod.snd (Prod.snd (pickS (smallS s) 17))))]), (.sl 0 (.float .f32) (xs ++ [fdiv FloatKind.f32 (FloatKind.nearest FloatKind.f32 (IntKind.wrap IntKind.i64 (pickV (smallS s) 17 - 8))) 1098907648]))])
 (False))
 (False))
 (cond (decide ((List.length xs + 1) * 4 ≤ 140737488355328))
 (Kn [(0, (.ptr 0 0)), (1, (.int .i64 (k))), (5, (.obj 1 0)), (6, (.int .i64 (IntKind.wrap IntKind.i64 (c - 1))))] [(.box [(.vec (.int .u8) (Prod.fst (smallS s))), (.int .i64 (Prod.fst (Prod.snd (smallS s)))), (.int .u64 (Prod.snd (Prod.snd (smallS s))))]), (.sl 0 (.float .f32) (xs ++ [smallV s]))])
 (False))))))))
 (cond (k == 16)
 (cond (decide ((List.length xs + 1) * 4 ≤ 140737488355328))
 (Kn [(0, (.ptr 0 0)), (1, (.int .i64 (k))), (5, (.obj 1 0)), (6, (.int .i64 (IntKind.wrap IntKind.i64 (c - 1))))] [(.box [(.vec (.int .u8) (Prod.fst (smallS s))), (.int .i64 (Prod.fst (Prod.snd (smallS s)))), (.int .u64 (Prod.snd (Prod.snd (smallS s))))]), (.sl 0 (.float .f32) (xs ++ [sizeV (smallV s)]))])
 (False))
 (cond (k == 8)
 (cond (k == 8)
 (cond (srcIn 6 (smallS s))
 (cond (decide ((List.length xs + 1) * 4 ≤ 140737488355328))
 (Kn [(0, (.ptr 0 0)), (1, (.int .i64 (k))), (5, (.obj 1 0)), (6, (.int .i64 (IntKind.wrap IntKind.i64 (c - 1))))] [(.box [(.vec (.int .u8) (Prod.fst (pickS (smallS s) 8))), (.int .i64 (Prod.fst (Prod.snd (pickS (smallS s) 8)))), (.int .u64 (Prod.snd (Prod.snd (pickS (smallS s) 8))))]), (.sl 0 (.float .f32) (xs ++ [fdiv FloatKind.f32 (FloatKind.nearest FloatKind.f32 (IntKind.wrap IntKind.i64 (1 + pickV (smallS s) 8))) 1082130432]))])
 (False))
 (False))
 (cond (k == 12)
 (cond (srcIn 6 (smallS s))
 (cond (decide ((List.length xs + 1) * 4 ≤ 140737488355328))
 (Kn [(0, (.ptr 0 0)), (1, (.int .i64 (k))), (5, (.obj 1 0)), (6, (.int .i64 (IntKind.wrap IntKind.i64 (c - 1))))] [(.box [(.vec (.int .u8) (Prod.fst (pickS (smallS s) 17))), (.int .i64 (Prod.fst (Prod.snd (pickS (smallS s) 17)))), (.int .u64 (Prod.snd (Prod.snd (pickS (smallS s) 17))))]), (.sl 0 (.float .f32) (xs ++ [fdiv FloatKind.f32 (FloatKind.nearest FloatKind.f32 (IntKind.wrap IntKind.i64 (pickV (smallS s) 17 - 8))) 1098907648]))])
 (False))
 (False))
 (cond (decide ((List.length xs + 1) * 4 ≤ 140737488355328))
 (Kn [(0, (.ptr 0 0)), (1, (.int .i64 (k))), (5, (.obj 1 0)), (6, (.int .i64 (IntKind.wrap IntKind.i64 (c - 1))))] [(.box [(.vec (.int .u8) (Prod.fst (smallS s))), (.int .i64 (Prod.fst (Prod.snd (smallS s)))), (.int .u64 (Prod.snd (Prod.snd (smallS s))))]), (.sl 0 (.float .f32) (xs ++ [smallV s]))])
 (False))))
 (cond (k == 10)
 (cond (k == 10)
 (cond (srcIn 6 (smallS s))
 (cond (decide ((List.length xs + 1) * 4 ≤ 140737488355328))
 (Kn [(0, (.ptr 0 0)), (1, (.int .i64 (k))), (5, (.obj 1 0)), (6, (.int .i64 (IntKind.wrap IntKind.i64 (c - 1))))] [(.box [(.vec (.int .u8) (Prod.fst (pickS (smallS s) 8))), (.int .i64 (Prod.fst (Prod.snd (pickS (smallS s) 8)))), (.int .u64 (Prod.snd (Prod.snd (pickS (smallS s) 8))))]), (.sl 0 (.float .f32) (xs ++ [fdiv FloatKind.f32 (FloatKind.nearest FloatKind.f32 (IntKind.wrap IntKind.i64 (1 + pickV (smallS s) 8))) 1082130432]))])
 (False))
 (False))
 (cond (k == 12)
 (cond (srcIn 6 (smallS s))
 (cond (decide ((List.length xs + 1) * 4 ≤ 140737488355328))
 (Kn [(0, (.ptr 0 0)), (1, (.int .i64 (k))), (5, (.obj 1 0)), (6, (.int .i64 (IntKind.wrap IntKind.i64 (c - 1))))] [(.box [(.vec (.int .u8) (Prod.fst (pickS (smallS s) 17))), (.int .i64 (Prod.fst (Prod.snd (pickS (smallS s) 17)))), (.int .u64 (Prod.snd (Prod.snd (pickS (smallS s) 17))))]), (.sl 0 (.float .f32) (xs ++ [fdiv FloatKind.f32 (FloatKind.nearest FloatKind.f32 (IntKind.wrap IntKind.i64 (pickV (smallS s) 17 - 8))) 1098907648]))])
 (False))
 (False))
 (cond (decide ((List.length xs + 1) * 4 ≤ 140737488355328))
 (Kn [(0, (.ptr 0 0)), (1, (.int .i64 (k))), (5, (.obj 1 0)), (6, (.int .i64 (IntKind.wrap IntKind.i64 (c - 1))))] [(.box [(.vec (.int .u8) (Prod.fst (smallS s))), (.int .i64 (Prod.fst (Prod.snd (smallS s)))), (.int .u64 (Prod.snd (Prod.snd (smallS s))))]), (.sl 0 (.float .f32) (xs ++ [smallV s]))])
 (False))))
 (cond (k == 11)
 (cond (k == 11)
 (cond (srcIn 6 (smallS s))
 (cond (decide ((List.length xs + 1) * 4 ≤ 140737488355328))
 (Kn [(0, (.ptr 0 0)), (1, (.int .i64 (k))), (5, (.obj 1 0)), (6, (.int .i64 (IntKind.wrap IntKind.i64 (c - 1))))] [(.box [(.vec (.int .u8) (Prod.fst (pickS (smallS s) 8))), (.int .i64 (Prod.fst (Prod.snd (pickS (smallS s) 8)))), (.int .u64 (Prod.snd (Prod.snd (pickS (smallS s) 8))))]), (.sl 0 (.float .f32) (xs ++ [fdiv FloatKind.f32 (FloatKind.nearest FloatKind.f32 (IntKind.wrap IntKind.i64 (1 + pickV (smallS s) 8))) 1082130432]))])
 (False))
 (False))
 (cond (k == 12)
 (cond (srcIn 6 (smallS s))
 (cond (decide ((List.length xs + 1) * 4 ≤ 140737488355328))
 (Kn [(0, (.ptr 0 0)), (1, (.int .i64 (k))), (5, (.obj 1 0)), (6, (.int .i64 (IntKind.wrap IntKind.i64 (c - 1))))] [(.box [(.vec (.int .u8) (Prod.fst (pickS (smallS s) 17))), (.int .i64 (Prod.fst (Prod.snd (pickS (smallS s) 17)))), (.int .u64 (Prod.snd (Prod.snd (pickS (smallS s) 17))))]), (.sl 0 (.float .f32) (xs ++ [fdiv FloatKind.f32 (FloatKind.nearest FloatKind.f32 (IntKind.wrap IntKind.i64 (pickV (smallS s) 17 - 8))) 1098907648]))])
 (False))
 (False))
 (cond (decide ((List.length xs + 1) * 4 ≤ 140737488355328))
 (Kn [(0, (.ptr 0 0)), (1, (.int .i64 (k))), (5, (.obj 1 0)), (6, (.int .i64 (IntKind.wrap IntKind.i64 (c - 1))))] [(.box [(.vec (.int .u8) (Prod.fst (smallS s))), (.int .i64 (Prod.fst (Prod.snd (smallS s)))), (.int .u64 (Prod.snd (Prod.snd (smallS s))))]), (.sl 0 (.float .f32) (xs ++ [smallV s]))])
 (False))))
 (cond (k == 14)
 (cond (srcIn 6 (smallS s))
 (cond (decide ((List.length xs + 1) * 4 ≤ 140737488355328))
 (Kn [(0, (.ptr 0 0)), (1, (.int .i64 (k))), (5, (.obj 1 0)), (6, (.int .i64 (IntKind.wrap IntKind.i64 (c - 1))))] [(.box [(.vec (.int .u8) (Prod.fst (pickS (smallS s) 8))), (.int .i64 (Prod.fst (Prod.snd (pickS (smallS s) 8)))), (.int .u64 (Prod.snd (Prod.snd (pickS (smallS s) 8))))]), (.sl 0 (.float .f32) (xs ++ [fdiv FloatKind.f32 (FloatKind.nearest FloatKind.f32 (IntKind.wrap IntKind.i64 (1 + pickV (smallS s) 8))) 1082130432]))])
 (False))
 (False))
 (cond (k == 12)
 (cond (srcIn 6 (smallS s))
 (cond (decide ((List.length xs + 1) * 4 ≤ 140737488355328))
 (Kn [(0, (.ptr 0 0)), (1, (.int .i64 (k))), (5, (.obj 1 0)), (6, (.int .i64 (IntKind.wrap IntKind.i64 (c - 1))))] [(.box [(.vec (.int .u8) (Prod.fst (pickS (smallS s) 17))), (.int .i64 (Prod.fst (Prod.snd (pickS (smallS s) 17)))), (.int .u64 (Prod.snd (Prod.snd (pickS (smallS s) 17))))]), (.sl 0 (.float .f32) (xs ++ [fdiv FloatKind.f32 (FloatKind.nearest FloatKind.f32 (IntKind.wrap IntKind.i64 (pickV (smallS s) 17 - 8))) 1098907648]))])
 (False))
 (False))
 (cond (decide ((List.length xs + 1) * 4 ≤ 140737488355328))
 (Kn [(0, (.ptr 0 0)), (1, (.int .i64 (k))), (5, (.obj 1 0)), (6, (.int .i64 (IntKind.wrap IntKind.i64 (c - 1))))] [(.box [(.vec (.int .u8) (Prod.fst (smallS s))), (.int .i64 (Prod.fst (Prod.snd (smallS s)))), (.int .u64 (Prod.snd (Prod.snd (smallS s))))]), (.sl 0 (.float .f32) (xs ++ [smallV s]))])
 (False))))))))))))
 (False))
 (K (.obj 1 0) [(.box [(.vec (.int .u8) (Prod.fst s)), (.int .i64 (Prod.fst (Prod.snd s))), (.int .u64 (Prod.snd (Prod.snd s)))]), (.sl 0 (.float .f32) (xs))]) := by kernel_rfl
theorem w_spec_l02DrawNumbers (s : SrcD) (k : Int) (K : V → Heap → Prop) : wpFnG gp_spec_l02DrawNumbers c_spec_l02DrawNumbers Try.f159 (.ptr 0 0 :: encAs [.cell tI] (k, ())) [.box (enc tSrc s)] K =
 LoopE c_spec_l02DrawNumbers ⟨[0, 1, 5, 6], 1, true⟩ (lb c_spec_l02DrawNumbers 3 Try.f159) [(0, (.ptr 0 0)), (1, (.int .i64 (k))), (5, (.obj 1 0)), (6, (.int .i64 (kindN k)))] [(.box [(.vec (.int .u8) (Prod.fst s)), (.int .i64 (Prod.fst (Prod.snd s))), (.int .u64 (Prod.snd (Prod.snd s)))]), (.sl 0 (.float .f32) ([]))] (lkG gp_spec_l02DrawNumbers c_spec_l02DrawNumbers 3 Try.f159 [.box []] K) := by kernel_rfl
noncomputable def s_spec_l02DrawNumbers : Sm := semPG tSrc [.cell tI] [.cell (.own tF)] (fun s x => match x with | (k, _) => inS 900000 s && isK k) fun s x => match x with | (k, _) => ((numsV k s, ()), numsS k s)
theorem ok_spec_l02DrawNumbers : FnOkL Try.prog 159 s_spec_l02DrawNumbers := fnOkO_boxg (fnOkO_runG (C := c_spec_l02DrawNumbers) gp_spec_l02DrawNumbers rfl mixed (.cons ok_spec_l02Size (.cons ok_spec_l02Count .nil)) .nil (.cons ok_spec_l01DrawSmall (.cons ok_spec_l00Src_pick .nil)) Try.func159 (by kernel_rfl)) rfl fun (s : SrcD) (x : ((Int) × Unit)) ws wf hg K h => by
  obtain ⟨k, ⟨⟩⟩ := x
  replace hg : (inS 900000 s && isK k) = true := hg
  replace h : K (tup (valRs [.cell (.own tF)] ((numsV k s, ())) 1)) (.box (enc tSrc (numsS k s)) :: thRs [.cell (.own tF)] ((numsV k s, ()))) := h
  rw [w_spec_l02DrawNumbers s k K]
  simp only [Bool.and_eq_true] at hg
  obtain ⟨hs, hk⟩ := hg
  have kr := kindN_ok k
  have hb : bytes s.1 := bytes_of ws.1
  unfold numsV numsS at h
  obtain ⟨m, hm⟩ : ∃ m : Nat, kindN k = m := ⟨(kindN k).toNat, by omega⟩
  rw [hm, Int.toNat_natCast] at h
  rw [hm] at kr ⊢
  refine loop_run (σ := Nat × SrcD × List Nat) (fun r => fr_spec_l02DrawNumbers_3 s k r.1 []) (fun r => hp_spec_l02DrawNumbers_3 r.2.1 k r.1 r.2.2) (fun r => r.2.2.length + r.1 = m ∧ Far s r.2.1 (4 * (m - r.1 : Nat)) ∧ r.2.2 ++ nusL k r.1 r.2.1 = nusL k m s ∧ nusN k r.1 r.2.1 = nusN k m s) (fun r => r.1) ?_ (m, s, []) ⟨by simp, by simp only [Nat.sub_self]; exact Far.refl s, rfl, rfl⟩
  rintro ⟨j, u, xs⟩ ⟨hl, hf, h1, h2⟩ Kn hk3
  simp only at hl hf h1 h2 hk3 ⊢
  rw [show fr_spec_l02DrawNumbers_3 s k j [] = fr_spec_l02DrawNumbers_3 u k j xs from rfl, r_spec_l02DrawNumbers_3 u k j xs Kn K]
  rw [← h1, ← h2] at h
  cases j with
  | zero =>
    rw [d_f (show ¬ ((0 : Nat) : Int) > 0 by omega), cond_false]
    simp only [nusL, nusN, List.append_nil] at h
    exact h
  | succ j =>
    have hk1 := hk3 (j, nuS k u, xs ++ [nuV k u])
    simp only [nusL, nusN] at h1 h2
    have bu : bytes u.1 := hf.bytes hb
    have b1 := (far_small u).bytes bu
    have f1 : inS 1000000 u = true := hf.ok hs (by omega)
    have f2 : inS 1000000 (smallS u) = true := (hf.trans (far_small u)).ok hs (by omega)
    have r8 := pickV_range (s := smallS u) b1 (n := 8) (by omega)
    have r17 := pickV_range (s := smallS u) b1 (n := 17) (by omega)
    have hnext := hk1 ⟨by simp only [List.length_append, List.length_cons, List.length_nil]; omega, (hf.trans (far_nu k u)).mono (by omega), by rw [List.append_assoc]; exact h1, h2⟩ (by simp only; omega)
    simp only at hnext
    have hcap : decide ((xs.length + 1) * 4 ≤ 140737488355328) = true := decide_eq_true (by omega)
    have g2 : srcIn 6 (smallS u) = true := inS_src f2 (by omega) 6 (by omega)
    rw [d_t (show ((j + 1 : Nat) : Int) > 0 by omega), cond_true, f1, cond_true]
    rw [i64_of (n := ((j + 1 : Nat) : Int) - 1) (by omega) (by omega), show ((j + 1 : Nat) : Int) - 1 = (j : Int) by omega, i64_of (n := 1 + pickV (smallS u) 8) (by omega) (by omega), i64_of (n := pickV (smallS u) 17 - 8) (by omega) (by omega), hcap, g2]
    clear hk1 hk3 h1 h2 h hl hf hcap g2 f1 f2 hm
    rcases kinds hk with r | r | r | r | r | r | r | r | r | r | r | r | r | r | r | r | r <;> subst r <;> exact hnext

theorem node_two {f : List Int} {s : SrcD} (h2 : 2 ≤ f.length) (e : (pickV (pickS s 5) 2 == 0) = true) : nodeV f s = (5 + pickV (pickS (pickS s 5) 2) 4, at2 f 2, at2 f 1, numsV (5 + pickV (pickS (pickS s 5) 2) 4) (pickS (pickS (pickS s 5) 2) 4)) ∧
    nodeS f s = numsS (5 + pickV (pickS (pickS s 5) 2) 4) (pickS (pickS (pickS s 5) 2) 4) ∧ usedV f s = 2 := by
  have hn : dn2 f s = true := by unfold dn2; rw [d_t h2, e]; rfl
  have h1 : dnS1 f s = pickS (pickS s 5) 2 := by unfold dnS1; rw [d_t h2]; rfl
  unfold nodeV nodeS usedV dnA dnB dnT dnK
  rw [hn, h1]
  exact ⟨rfl, rfl, rfl⟩
theorem node_one {f : List Int} {s t : SrcD} (hn : dn2 f s = false) (ht : dnS1 f s = t) (h1 : 1 ≤ f.length) (e : (pickV t 2 == 0) = true) : nodeV f s = (9 + pickV (pickS t 2) 8, at2 f 1, (bif inR (9 + pickV (pickS t 2) 8) 12 14 then pickV (pickS (pickS t 2) 8) 3 else 0), numsV (9 + pickV (pickS t 2) 8) (bif inR (9 + pickV (pickS t 2) 8) 12 14 then pickS (pickS (pickS t 2) 8) 3 else pickS (pickS t 2) 8)) ∧
    nodeS f s = numsS (9 + pickV (pickS t 2) 8) (bif inR (9 + pickV (pickS t 2) 8) 12 14 then pickS (pickS (pickS t 2) 8) 3 else pickS (pickS t 2) 8) ∧ usedV f s = 1 := by
  have hn1 : dn1 f s = true := by unfold dn1; rw [d_t h1, ht, e]; rfl
  have h2 : dnS2 f s = pickS t 2 := by unfold dnS2; rw [d_t h1, ht]; rfl
  have hk : dnK f s = 9 + pickV (pickS t 2) 8 := by unfold dnK; rw [hn, hn1, h2]; rfl
  unfold nodeV nodeS usedV dnA dnB dnT dnX
  rw [hk, hn, hn1, h2]
  exact ⟨rfl, rfl, rfl⟩
theorem node_leaf {f : List Int} {s t : SrcD} (hn : dn2 f s = false) (hn1 : dn1 f s = false) (ht : dnS2 f s = t) : nodeV f s = (pickV s 5, 0, 0, numsV (pickV s 5) t) ∧ nodeS f s = numsS (pickV s 5) t ∧ usedV f s = 0 := by
  have hk : dnK f s = pickV s 5 := by unfold dnK; rw [hn, hn1]; rfl
  unfold nodeV nodeS usedV dnA dnB dnT dnX
  rw [hk, hn, hn1, ht]
  exact ⟨rfl, rfl, rfl⟩

noncomputable def c_spec_l02DrawNode : Ctx := mkC Try.prog tyT [(158, s_spec_l02Axis)] [] [(70, s_spec_l00Src_pick), (127, s_spec_l00Src_one), (159, s_spec_l02DrawNumbers)] 69 (fun _ => none) 1
noncomputable def gp_spec_l02DrawNode : List (List (Option Ty)) := List.map giveR [.agg [.imm tN], .cell (.imm tI)]
theorem w_spec_l02DrawNode (s : SrcD) (f : List Int) (K : V → Heap → Prop) : wpFnG gp_spec_l02DrawNode c_spec_l02DrawNode Try.f133 (.ptr 0 0 :: encAs [.cell (.slice tI)] (f, ())) [.box (enc tSrc s)] K =
  cond (srcIn 6 s)
    (cond (decide ((↑(List.length f) : Int) ≥ 2))
      (cond (srcIn 6 (pickS s 5))
        (cond (pickV (pickS s 5) 2 == 0)
          (cond (srcIn 6 (pickS (pickS s 5) 2))
            (cond (decide (0 ≤ IntKind.wrap IntKind.i64 ((↑(List.length f) : Int) - 2)))
              ((match f[Int.toNat (IntKind.wrap IntKind.i64 ((↑(List.length f) : Int) - 2))]? with
                | some y0 => cond (decide (0 ≤ IntKind.wrap IntKind.i64 ((↑(List.length f) : Int) - 1)))
                  ((match f[Int.toNat (IntKind.wrap IntKind.i64 ((↑(List.length f) : Int) - 1))]? with
                    | some y1 => cond (inS 900000 (pickS (pickS (pickS s 5) 2) 4) && isK (IntKind.wrap IntKind.i64 (5 + pickV (pickS (pickS s 5) 2) 4)))
                      (K (.tuple [(.agg [(.int .i64 (IntKind.wrap IntKind.i64 (5 + pickV (pickS (pickS s 5) 2) 4))), (.int .i64 (y0)), (.int .i64 (y1)), (.vec (.float .f32) (numsV (IntKind.wrap IntKind.i64 (5 + pickV (pickS (pickS s 5) 2) 4)) (pickS (pickS (pickS s 5) 2) 4)))]), (.int .i64 2)]) [(.box [(.vec (.int .u8) (Prod.fst (numsS (IntKind.wrap IntKind.i64 (5 + pickV (pickS (pickS s 5) 2) 4)) (pickS (pickS (pickS s 5) 2) 4)))), (.int .i64 (Prod.fst (Prod.snd (numsS (IntKind.wrap IntKind.i64 (5 + pickV (pickS (pickS s 5) 2) 4)) (pickS (pickS (pickS s 5) 2) 4))))), (.int .u64 (Prod.snd (Prod.snd (numsS (IntKind.wrap IntKind.i64 (5 + pickV (pickS (pickS s 5) 2) 4)) (pickS (pickS (pickS s 5) 2) 4)))))])])
                      (False)
                    | none => False))
                  (False)
                | none => False))
              (False))
            (False))
          (cond (decide ((↑(List.length f) : Int) ≥ 1))
            (cond (srcIn 6 (pickS (pickS s 5) 2))
              (cond (pickV (pickS (pickS s 5) 2) 2 == 0)
                (cond (srcIn 6 (pickS (pickS (pickS s 5) 2) 2))
                  (cond (decide (0 ≤ IntKind.wrap IntKind.i64 ((↑(List.length f) : Int) - 1)))
                    ((match f[Int.toNat (IntKind.wrap IntKind.i64 ((↑(List.length f) : Int) - 1))]? with
                      | some y2 => cond (inR (IntKind.wrap IntKind.i64 (9 + pickV (pickS (pickS (pickS s 5) 2) 2) 8)) 12 14)
                        (cond (srcIn 6 (pickS (pickS (pickS (pickS s 5) 2) 2) 8))
                          (cond (inS 900000 (pickS (pickS (pickS (pickS (pickS s 5) 2) 2) 8) 3) && isK (IntKind.wrap IntKind.i64 (9 + pickV (pickS (pickS (pickS s 5) 2) 2) 8)))
                            (K (.tuple [(.agg [(.int .i64 (IntKind.wrap IntKind.i64 (9 + pickV (pickS (pickS (pickS s 5) 2) 2) 8))), (.int .i64 (y2)), (.int .i64 (pickV (pickS (pickS (pickS (pickS s 5) 2) 2) 8) 3)), (.vec (.float .f32) (numsV (IntKind.wrap IntKind.i64 (9 + pickV (pickS (pickS (pickS s 5) 2) 2) 8)) (pickS (pickS (pickS (pickS (pickS s 5) 2) 2) 8) 3)))]), (.int .i64 1)]) [(.box [(.vec (.int .u8) (Prod.fst (numsS (IntKind.wrap IntKind.i64 (9 + pickV (pickS (pickS (pickS s 5) 2) 2) 8)) (pickS (pickS (pickS (pickS (pickS s 5) 2) 2) 8) 3)))), (.int .i64 (Prod.fst (Prod.snd (numsS (IntKind.wrap IntKind.i64 (9 + pickV (pickS (pickS (pickS s 5) 2) 2) 8)) (pickS (pickS (pickS (pickS (pickS s 5) 2) 2) 8) 3))))), (.int .u64 (Prod.snd (Prod.snd (numsS (IntKind.wrap IntKind.i64 (9 + pickV (pickS (pickS (pickS s 5) 2) 2) 8)) (pickS (pickS (pickS (pickS (pickS s 5) 2) 2) 8) 3)))))])])
                            (False))
                          (False))
                        (cond (inS 900000 (pickS (pickS (pickS (pickS s 5) 2) 2) 8) && isK (IntKind.wrap IntKind.i64 (9 + pickV (pickS (pickS (pickS s 5) 2) 2) 8)))
                          (K (.tuple [(.agg [(.int .i64 (IntKind.wrap IntKind.i64 (9 + pickV (pickS (pickS (pickS s 5) 2) 2) 8))), (.int .i64 (y2)), (.int .i64 0), (.vec (.float .f32) (numsV (IntKind.wrap IntKind.i64 (9 + pickV (pickS (pickS (pickS s 5) 2) 2) 8)) (pickS (pickS (pickS (pickS s 5) 2) 2) 8)))]), (.int .i64 1)]) [(.box [(.vec (.int .u8) (Prod.fst (numsS (IntKind.wrap IntKind.i64 (9 + pickV (pickS (pickS (pickS s 5) 2) 2) 8)) (pickS (pickS (pickS (pickS s 5) 2) 2) 8)))), (.int .i64 (Prod.fst (Prod.snd (numsS (IntKind.wrap IntKind.i64 (9 + pickV (pickS (pickS (pickS s 5) 2) 2) 8)) (pickS (pickS (pickS (pickS s 5) 2) 2) 8))))), (.int .u64 (Prod.snd (Prod.snd (numsS (IntKind.wrap IntKind.i64 (9 + pickV (pickS (pickS (pickS s 5) 2) 2) 8)) (pickS (pickS (pickS (pickS s 5) 2) 2) 8)))))])])
                          (False))
                      | none => False))
                    (False))
                  (False))
                (cond (inS 900000 (pickS (pickS (pickS s 5) 2) 2) && isK (pickV s 5))
                  (K (.tuple [(.agg [(.int .i64 (pickV s 5)), (.int .i64 0), (.int .i64 0), (.vec (.float .f32) (numsV (pickV s 5) (pickS (pickS (pickS s 5) 2) 2)))]), (.int .i64 0)]) [(.box [(.vec (.int .u8) (Prod.fst (numsS (pickV s 5) (pickS (pickS (pickS s 5) 2) 2)))), (.int .i64 (Prod.fst (Prod.snd (numsS (pickV s 5) (pickS (pickS (pickS s 5) 2) 2))))), (.int .u64 (Prod.snd (Prod.snd (numsS (pickV s 5) (pickS (pickS (pickS s 5) 2) 2)))))])])
                  (False)))
              (False))
            (cond (inS 900000 (pickS (pickS s 5) 2) && isK (pickV s 5))
              (K (.tuple [(.agg [(.int .i64 (pickV s 5)), (.int .i64 0), (.int .i64 0), (.vec (.float .f32) (numsV (pickV s 5) (pickS (pickS s 5) 2)))]), (.int .i64 0)]) [(.box [(.vec (.int .u8) (Prod.fst (numsS (pickV s 5) (pickS (pickS s 5) 2)))), (.int .i64 (Prod.fst (Prod.snd (numsS (pickV s 5) (pickS (pickS s 5) 2))))), (.int .u64 (Prod.snd (Prod.snd (numsS (pickV s 5) (pickS (pickS s 5) 2)))))])])
              (False))))
        (False))
      (cond (decide ((↑(List.length f) : Int) ≥ 1))
        (cond (srcIn 6 (pickS s 5))
          (cond (pickV (pickS s 5) 2 == 0)
            (cond (srcIn 6 (pickS (pickS s 5) 2))
              (cond (decide (0 ≤ IntKind.wrap IntKind.i64 ((↑(List.length f) : Int) - 1)))
                ((match f[Int.toNat (IntKind.wrap IntKind.i64 ((↑(List.length f) : Int) - 1))]? with
                  | some y3 => cond (inR (IntKind.wrap IntKind.i64 (9 + pickV (pickS (pickS s 5) 2) 8)) 12 14)
                    (cond (srcIn 6 (pickS (pickS (pickS s 5) 2) 8))
                      (cond (inS 900000 (pickS (pickS (pickS (pickS s 5) 2) 8) 3) && isK (IntKind.wrap IntKind.i64 (9 + pickV (pickS (pickS s 5) 2) 8)))
                        (K (.tuple [(.agg [(.int .i64 (IntKind.wrap IntKind.i64 (9 + pickV (pickS (pickS s 5) 2) 8))), (.int .i64 (y3)), (.int .i64 (pickV (pickS (pickS (pickS s 5) 2) 8) 3)), (.vec (.float .f32) (numsV (IntKind.wrap IntKind.i64 (9 + pickV (pickS (pickS s 5) 2) 8)) (pickS (pickS (pickS (pickS s 5) 2) 8) 3)))]), (.int .i64 1)]) [(.box [(.vec (.int .u8) (Prod.fst (numsS (IntKind.wrap IntKind.i64 (9 + pickV (pickS (pickS s 5) 2) 8)) (pickS (pickS (pickS (pickS s 5) 2) 8) 3)))), (.int .i64 (Prod.fst (Prod.snd (numsS (IntKind.wrap IntKind.i64 (9 + pickV (pickS (pickS s 5) 2) 8)) (pickS (pickS (pickS (pickS s 5) 2) 8) 3))))), (.int .u64 (Prod.snd (Prod.snd (numsS (IntKind.wrap IntKind.i64 (9 + pickV (pickS (pickS s 5) 2) 8)) (pickS (pickS (pickS (pickS s 5) 2) 8) 3)))))])])
                        (False))
                      (False))
                    (cond (inS 900000 (pickS (pickS (pickS s 5) 2) 8) && isK (IntKind.wrap IntKind.i64 (9 + pickV (pickS (pickS s 5) 2) 8)))
                      (K (.tuple [(.agg [(.int .i64 (IntKind.wrap IntKind.i64 (9 + pickV (pickS (pickS s 5) 2) 8))), (.int .i64 (y3)), (.int .i64 0), (.vec (.float .f32) (numsV (IntKind.wrap IntKind.i64 (9 + pickV (pickS (pickS s 5) 2) 8)) (pickS (pickS (pickS s 5) 2) 8)))]), (.int .i64 1)]) [(.box [(.vec (.int .u8) (Prod.fst (numsS (IntKind.wrap IntKind.i64 (9 + pickV (pickS (pickS s 5) 2) 8)) (pickS (pickS (pickS s 5) 2) 8)))), (.int .i64 (Prod.fst (Prod.snd (numsS (IntKind.wrap IntKind.i64 (9 + pickV (pickS (pickS s 5) 2) 8)) (pickS (pickS (pickS s 5) 2) 8))))), (.int .u64 (Prod.snd (Prod.snd (numsS (IntKind.wrap IntKind.i64 (9 + pickV (pickS (pickS s 5) 2) 8)) (pickS (pickS (pickS s 5) 2) 8)))))])])
                      (False))
                  | none => False))
                (False))
              (False))
            (cond (inS 900000 (pickS (pickS s 5) 2) && isK (pickV s 5))
              (K (.tuple [(.agg [(.int .i64 (pickV s 5)), (.int .i64 0), (.int .i64 0), (.vec (.float .f32) (numsV (pickV s 5) (pickS (pickS s 5) 2)))]), (.int .i64 0)]) [(.box [(.vec (.int .u8) (Prod.fst (numsS (pickV s 5) (pickS (pickS s 5) 2)))), (.int .i64 (Prod.fst (Prod.snd (numsS (pickV s 5) (pickS (pickS s 5) 2))))), (.int .u64 (Prod.snd (Prod.snd (numsS (pickV s 5) (pickS (pickS s 5) 2)))))])])
              (False)))
          (False))
        (cond (inS 900000 (pickS s 5) && isK (pickV s 5))
          (K (.tuple [(.agg [(.int .i64 (pickV s 5)), (.int .i64 0), (.int .i64 0), (.vec (.float .f32) (numsV (pickV s 5) (pickS s 5)))]), (.int .i64 0)]) [(.box [(.vec (.int .u8) (Prod.fst (numsS (pickV s 5) (pickS s 5)))), (.int .i64 (Prod.fst (Prod.snd (numsS (pickV s 5) (pickS s 5))))), (.int .u64 (Prod.snd (Prod.snd (numsS (pickV s 5) (pickS s 5)))))])])
          (False))))
    (False) := by kernel_rfl
noncomputable def s_spec_l02DrawNode : Sm := semPG tSrc [.cell (.slice tI)] [.agg [.imm tN], .cell (.imm tI)] (fun s x => match x with | (f, _) => inS 800000 s) fun s x => match x with | (f, _) => (((nodeV f s, ()), usedV f s, ()), nodeS f s)
theorem ok_spec_l02DrawNode : FnOkL Try.prog 133 s_spec_l02DrawNode := fnOkO_boxg (fnOkO_runG (C := c_spec_l02DrawNode) gp_spec_l02DrawNode rfl mixed (.cons ok_spec_l02Axis .nil) .nil (.cons ok_spec_l00Src_pick (.cons ok_spec_l00Src_one (.cons ok_spec_l02DrawNumbers .nil))) Try.func133 (by kernel_rfl)) rfl fun (s : SrcD) (x : ((List Int) × Unit)) ws wf hg K h => by
  obtain ⟨f, ⟨⟩⟩ := x
  replace hg : (inS 800000 s) = true := hg
  replace h : K (tup (valRs [.agg [.imm tN], .cell (.imm tI)] (((nodeV f s, ()), usedV f s, ())) 1)) (.box (enc tSrc (nodeS f s)) :: thRs [.agg [.imm tN], .cell (.imm tI)] (((nodeV f s, ()), usedV f s, ()))) := h
  rw [w_spec_l02DrawNode s f K]
  have hb : bytes s.1 := bytes_of ws.1
  obtain ⟨⟨wl, _⟩, _⟩ := wf
  have wl : f.length ≤ 9223372036854775807 := wl
  have F1 := far_pick s 5
  have F2 := F1.trans (far_pick (pickS s 5) 2)
  have F3 := F2.trans (far_pick (pickS (pickS s 5) 2) 2)
  have G9 : ∀ {t : SrcD} {n : Int}, Far s t n → n ≤ 100 → inS 900000 t = true := fun hf hn => hf.ok hg (by omega)
  have G : ∀ {t : SrcD} {n : Int}, Far s t n → n ≤ 100 → srcIn 6 t = true := fun hf hn => inS_src (G9 hf hn) (by omega) 6 (by omega)
  have K0 : isK (pickV s 5) = true := by have := pickV_range (s := s) hb (n := 5) (by omega); exact inR_iff.2 (by omega)
  have K4 : ∀ {t : SrcD}, bytes t.1 → IntKind.i64.wrap (5 + pickV t 4) = 5 + pickV t 4 ∧ isK (5 + pickV t 4) = true := fun hb => by
    have := pickV_range hb (n := 4) (by omega)
    exact ⟨i64_of (by omega) (by omega), inR_iff.2 (by omega)⟩
  have K8 : ∀ {t : SrcD}, bytes t.1 → IntKind.i64.wrap (9 + pickV t 8) = 9 + pickV t 8 ∧ isK (9 + pickV t 8) = true := fun hb => by
    have := pickV_range hb (n := 8) (by omega)
    exact ⟨i64_of (by omega) (by omega), inR_iff.2 (by omega)⟩
  have e2 : decide ((f.length : Int) ≥ 2) = decide (2 ≤ f.length) := decide_eq_decide.2 (by omega)
  have e1 : decide ((f.length : Int) ≥ 1) = decide (1 ≤ f.length) := decide_eq_decide.2 (by omega)
  have b2 := F2.bytes hb
  have b3 := F3.bytes hb
  simp only [e2, e1, G (Far.refl s) (by omega), G F1 (by omega), G F2 (by omega), G F3 (by omega), G (F3.trans (far_pick _ 8)) (by omega), G (F2.trans (far_pick _ 8)) (by omega), (K4 b2).1, (K8 b2).1, (K8 b3).1, cond_true]
  have one : ∀ {t : SrcD} {n : Int}, Far s t n → n ≤ 8 → dn2 f s = false → dnS1 f s = t → 1 ≤ f.length → (pickV t 2 == 0) = true →
      cond (inR (9 + pickV (pickS t 2) 8) 12 14)
        (cond (inS 900000 (pickS (pickS (pickS t 2) 8) 3) && isK (9 + pickV (pickS t 2) 8))
          (K (.tuple [.agg [.int .i64 (9 + pickV (pickS t 2) 8), .int .i64 (at2 f 1), .int .i64 (pickV (pickS (pickS t 2) 8) 3), .vec tF (numsV (9 + pickV (pickS t 2) 8) (pickS (pickS (pickS t 2) 8) 3))], .int .i64 1]) [.box (enc tSrc (numsS (9 + pickV (pickS t 2) 8) (pickS (pickS (pickS t 2) 8) 3)))]) False)
        (cond (inS 900000 (pickS (pickS t 2) 8) && isK (9 + pickV (pickS t 2) 8))
          (K (.tuple [.agg [.int .i64 (9 + pickV (pickS t 2) 8), .int .i64 (at2 f 1), .int .i64 0, .vec tF (numsV (9 + pickV (pickS t 2) 8) (pickS (pickS t 2) 8))], .int .i64 1]) [.box (enc tSrc (numsS (9 + pickV (pickS t 2) 8) (pickS (pickS t 2) 8)))]) False) := by
    intro t n hf hn hd ht h1 e
    obtain ⟨q1, q2, q3⟩ := node_one hd ht h1 e
    rw [q1, q2, q3] at h
    have bt := (hf.trans (far_pick t 2)).bytes hb
    have g1 : inS 900000 (pickS (pickS t 2) 8) = true := G9 ((hf.trans (far_pick t 2)).trans (far_pick _ 8)) (by omega)
    have g2 : inS 900000 (pickS (pickS (pickS t 2) 8) 3) = true := G9 (((hf.trans (far_pick t 2)).trans (far_pick _ 8)).trans (far_pick _ 3)) (by omega)
    rw [g1, g2, (K8 bt).2]
    revert h
    cases inR (9 + pickV (pickS t 2) 8) 12 14 <;> exact id
  have leaf : ∀ {t : SrcD} {n : Int}, Far s t n → n ≤ 8 → dn2 f s = false → dn1 f s = false → dnS2 f s = t →
      cond (inS 900000 t && isK (pickV s 5)) (K (.tuple [.agg [.int .i64 (pickV s 5), .int .i64 0, .int .i64 0, .vec tF (numsV (pickV s 5) t)], .int .i64 0]) [.box (enc tSrc (numsS (pickV s 5) t))]) False := by
    intro t n hf hn hd hd1 ht
    obtain ⟨q1, q2, q3⟩ := node_leaf hd hd1 ht
    rw [q1, q2, q3] at h
    rw [G9 hf (by omega), K0]
    exact h
  have x1 : 1 ≤ f.length → IntKind.i64.wrap ((f.length : Int) - 1) = ((f.length - 1 : Nat) : Int) ∧ f[f.length - 1]? = some (at2 f 1) := fun h1 => by
    refine ⟨by rw [i64_of (by omega) (by omega)]; omega, ?_⟩
    unfold at2
    rw [get_lt (show f.length - 1 < f.length by omega)]
    rfl
  by_cases h2 : 2 ≤ f.length
  · have h1 : 1 ≤ f.length := by omega
    obtain ⟨w1, y1⟩ := x1 h1
    have w2 : IntKind.i64.wrap ((f.length : Int) - 2) = ((f.length - 2 : Nat) : Int) := by rw [i64_of (by omega) (by omega)]; omega
    have y2 : f[f.length - 2]? = some (at2 f 2) := by
      unfold at2
      rw [get_lt (show f.length - 2 < f.length by omega)]
      rfl
    simp only [d_t h2, d_t h1, cond_true, w1, w2, d_0, Int.toNat_natCast, y1, y2]
    cases e : (pickV (pickS s 5) 2 == 0) with
    | true =>
      obtain ⟨q1, q2, q3⟩ := node_two h2 e
      rw [q1, q2, q3] at h
      rw [G9 (F2.trans (far_pick _ 4)) (by omega), (K4 b2).2]
      exact h
    | false =>
      have hd : dn2 f s = false := by unfold dn2; rw [d_t h2, e]; rfl
      have hs1 : dnS1 f s = pickS (pickS s 5) 2 := by unfold dnS1; rw [d_t h2]; rfl
      simp only [cond_false]
      cases e3 : (pickV (pickS (pickS s 5) 2) 2 == 0) with
      | true => exact one F2 (by omega) hd hs1 h1 e3
      | false => exact leaf F3 (by omega) hd (by unfold dn1; rw [d_t h1, hs1, e3]; rfl) (by unfold dnS2; rw [d_t h1, hs1]; rfl)
  · have hd : dn2 f s = false := by unfold dn2; rw [d_f h2]; rfl
    have hs1 : dnS1 f s = pickS s 5 := by unfold dnS1; rw [d_f h2]; rfl
    by_cases h1 : 1 ≤ f.length
    · obtain ⟨w1, y1⟩ := x1 h1
      simp only [d_f h2, d_t h1, cond_true, cond_false, w1, d_0, Int.toNat_natCast, y1]
      cases e3 : (pickV (pickS s 5) 2 == 0) with
      | true => exact one F1 (by omega) hd hs1 h1 e3
      | false => exact leaf F2 (by omega) hd (by unfold dn1; rw [d_t h1, hs1, e3]; rfl) (by unfold dnS2; rw [d_t h1, hs1]; rfl)
    · simp only [d_f h2, d_f h1, cond_false]
      exact leaf F1 (by omega) hd (by unfold dn1; rw [d_f h1]; rfl) (by unfold dnS2; rw [d_f h1, hs1]; rfl)

noncomputable def a_spec_l02DrawOk : Nat → Option Ann := fun n => bif Nat.beq n 4 then some ⟨[0,2,3,4,5],1,true⟩ else bif Nat.beq n 9 then some ⟨[0,2,3,4],1,true⟩ else none
noncomputable def c_spec_l02DrawOk : Ctx := mkC Try.prog tyT [] [] [(133, s_spec_l02DrawNode)] 81 a_spec_l02DrawOk 1 true [] false true true [(70, s_spec_l00Src_pick), (134, s_spec_l00Own)]
noncomputable def gp_spec_l02DrawOk : List (List (Option Ty)) := List.map giveR [.agg [.own tN]]
noncomputable def fr_spec_l02DrawOk_4 (s : SrcD) (ns : List NodeD) (fs : List Int) (k : Int) : Fr := [(0, .ptr 0 0), (2, .ptr 1 0), (3, .ptr 2 0), (4, .obj 3 0), (5, .int .i64 k)]
noncomputable def hp_spec_l02DrawOk_4 (s : SrcD) (ns : List NodeD) (fs : List Int) (k : Int) : Heap := [.box (enc tSrc s), .box [.nils], .box [.obj 4 0], .sl 0 tI fs, .sl 0 tN ns]
theorem r_spec_l02DrawOk_4 (s : SrcD) (ns : List NodeD) (fs : List Int) (k : Int) (Kn : Fr → Heap → Prop) (K : V → Heap → Prop) : round c_spec_l02DrawOk ⟨[0,2,3,4,5],1,true⟩ (lb c_spec_l02DrawOk 4 Try.f82) (fr_spec_l02DrawOk_4 s ns fs k) (hp_spec_l02DrawOk_4 s ns fs k) Kn (lkG gp_spec_l02DrawOk c_spec_l02DrawOk 4 Try.f82 [.box []] K) =
 cond (decide (k > 0))
 (cond (inS 800000 s)
 (cond (decide (0 ≤ 0) && (decide (0 ≤ IntKind.wrap IntKind.i64 ((↑(List.length fs) : Int) - usedV fs s)) && decide (IntKind.wrap IntKind.i64 ((↑(List.length fs) : Int) - usedV fs s) ≤ (↑(List.length fs) : Int))))
 (cond (decide (List.length (List.drop 0 (List.take (Int.toNat (IntKind.wrap IntKind.i64 ((↑(List.length fs) : Int) - usedV fs s))) fs)) ≤ 1000))
 (cond (decide ((List.length (List.drop 0 (List.take (Int.toNat (IntKind.wrap IntKind.i64 ((↑(List.length fs) : Int) - usedV fs s))) fs)) + 1) * 8 ≤ 140737488355328))
 (cond (decide ((List.length ns + 1) * 48 ≤ 140737488355328))
 (Kn [(0, (.ptr 0 0)), (2, (.ptr 1 0)), (3, (.ptr 2 0)), (4, (.obj 3 0)), (5, (.int .i64 (IntKind.wrap IntKind.i64 (k - 1))))] [(.box [(.vec (.int .u8) (Prod.fst (nodeS fs s))), (.int .i64 (Prod.fst (Prod.snd (nodeS fs s)))), (.int .u64 (Prod.snd (Prod.snd (nodeS fs s))))]), (.box [.nils]), (.box [(.obj 4 0)]), (.sl 0 (.int .i64) (List.drop 0 (List.take (Int.toNat (IntKind.wrap IntKind.i64 ((↑(List.length fs) : Int) - usedV fs s))) fs) ++ [(↑(List.length ns) : Int)])), (.sl 0 tN (ns ++ [nodeV fs s]))])
 (False))
 (False))
 (False))
 (False))
 (False))
 (LoopE c_spec_l02DrawOk ⟨[0, 2, 3, 4], 1, true⟩ (lb c_spec_l02DrawOk 9 Try.f82) [(0, (.ptr 0 0)), (2, (.ptr 1 0)), (3, (.ptr 2 0)), (4, (.obj 3 0))] [(.box [(.vec (.int .u8) (Prod.fst s)), (.int .i64 (Prod.fst (Prod.snd s))), (.int .u64 (Prod.snd (Prod.snd s)))]), (.box [.nils]), (.box [(.obj 4 0)]), (.sl 0 (.int .i64) (fs)), (.sl 0 tN (ns))] (lkG gp_spec_l02DrawOk c_spec_l02DrawOk 9 Try.f82 [.box []] K)) := by kernel_rfl
noncomputable def fr_spec_l02DrawOk_9 (s : SrcD) (ns : List NodeD) (fs : List Int) : Fr := [(0, .ptr 0 0), (2, .ptr 1 0), (3, .ptr 2 0), (4, .obj 3 0)]
noncomputable def hp_spec_l02DrawOk_9 (s : SrcD) (ns : List NodeD) (fs : List Int) : Heap := [.box (enc tSrc s), .box [.nils], .box [.obj 4 0], .sl 0 tI fs, .sl 0 tN ns]
theorem r_spec_l02DrawOk_9 (s : SrcD) (ns : List NodeD) (fs : List Int) (Kn : Fr → Heap → Prop) (K : V → Heap → Prop) : round c_spec_l02DrawOk ⟨[0,2,3,4],1,true⟩ (lb c_spec_l02DrawOk 9 Try.f82) (fr_spec_l02DrawOk_9 s ns fs) (hp_spec_l02DrawOk_9 s ns fs) Kn (lkG gp_spec_l02DrawOk c_spec_l02DrawOk 9 Try.f82 [.box []] K) =
  cond (decide ((↑(List.length fs) : Int) > 1))
    (cond (decide (0 ≤ IntKind.wrap IntKind.i64 ((↑(List.length fs) : Int) - 2)) && Nat.blt (Int.toNat (IntKind.wrap IntKind.i64 ((↑(List.length fs) : Int) - 2))) (List.length fs))
      ((match fs[Int.toNat (IntKind.wrap IntKind.i64 ((↑(List.length fs) : Int) - 2))]? with
        | some x0 => cond (decide (0 ≤ IntKind.wrap IntKind.i64 ((↑(List.length fs) : Int) - 1)) && Nat.blt (Int.toNat (IntKind.wrap IntKind.i64 ((↑(List.length fs) : Int) - 1))) (List.length fs))
          ((match fs[Int.toNat (IntKind.wrap IntKind.i64 ((↑(List.length fs) : Int) - 1))]? with
            | some x1 => cond (srcIn 6 s)
              (cond (decide (0 ≤ 0) && (decide (0 ≤ IntKind.wrap IntKind.i64 ((↑(List.length fs) : Int) - 2)) && decide (IntKind.wrap IntKind.i64 ((↑(List.length fs) : Int) - 2) ≤ (↑(List.length fs) : Int))))
                (cond (decide (List.length (List.take (Int.toNat (IntKind.wrap IntKind.i64 ((↑(List.length fs) : Int) - 2))) fs) ≤ 1000))
                  (cond (decide ((List.length (List.take (Int.toNat (IntKind.wrap IntKind.i64 ((↑(List.length fs) : Int) - 2))) fs) + 1) * 8 ≤ 140737488355328))
                    (cond (decide ((List.length ns + 1) * 48 ≤ 140737488355328))
                      (Kn [(0, (.ptr 0 0)), (2, (.ptr 1 0)), (3, (.ptr 2 0)), (4, (.obj 3 0))] [(.box [(.vec (.int .u8) (Prod.fst (pickS s 3))), (.int .i64 (Prod.fst (Prod.snd (pickS s 3)))), (.int .u64 (Prod.snd (Prod.snd (pickS s 3))))]), (.box [.nils]), (.box [(.obj 4 0)]), (.sl 0 (.int .i64) (List.take (Int.toNat (IntKind.wrap IntKind.i64 ((↑(List.length fs) : Int) - 2))) fs ++ [(↑(List.length ns) : Int)])), (.sl 0 tN (ns ++ [(IntKind.wrap IntKind.i64 (5 + pickV s 3), x0, x1, [])]))])
                      (False))
                    (False))
                  (False))
                (False))
              (False)
            | none => False))
          (False)
        | none => False))
      (False))
    (K (.agg [(.obj 1 0)]) [(.box [(.vec (.int .u8) (Prod.fst s)), (.int .i64 (Prod.fst (Prod.snd s))), (.int .u64 (Prod.snd (Prod.snd s)))]), (.sl 0 tN (ns))]) := by kernel_rfl
theorem w_spec_l02DrawOk (s : SrcD) (K : V → Heap → Prop) : wpFnG gp_spec_l02DrawOk c_spec_l02DrawOk Try.f82 (.ptr 0 0 :: encAs [] ()) [.box (enc tSrc s)] K =
 cond (srcIn 6 s)
 (LoopE c_spec_l02DrawOk ⟨[0, 2, 3, 4, 5], 1, true⟩ (lb c_spec_l02DrawOk 4 Try.f82) [(0, (.ptr 0 0)), (2, (.ptr 1 0)), (3, (.ptr 2 0)), (4, (.obj 3 0)), (5, (.int .i64 (IntKind.wrap IntKind.i64 (1 + pickV s 7))))] [(.box [(.vec (.int .u8) (Prod.fst (pickS s 7))), (.int .i64 (Prod.fst (Prod.snd (pickS s 7)))), (.int .u64 (Prod.snd (Prod.snd (pickS s 7))))]), (.box [.nils]), (.box [(.obj 4 0)]), (.sl 0 (.int .i64) ([])), (.sl 0 tN ([]))] (lkG gp_spec_l02DrawOk c_spec_l02DrawOk 4 Try.f82 [.box []] K))
 (False) := by kernel_rfl
noncomputable def s_spec_l02DrawOk : Sm := semPG tSrc [] [.agg [.own tN]] (fun s x => match x with | _ => inS 500000 s) fun s x => match x with | _ => (((shapeV s, ()), ()), shapeS s)
theorem ok_spec_l02DrawOk : FnOkL Try.prog 82 s_spec_l02DrawOk := fnOkO_boxg (fnOkO_runG (C := c_spec_l02DrawOk) gp_spec_l02DrawOk rfl mixed .nil .nil (.cons ok_spec_l02DrawNode .nil) Try.func82 (by kernel_rfl) (h5 := (.cons ok_spec_l00Src_pick (by first | exact semP_localE _ _ _ _ | exact semPG_localE _ _ _ _ _ | exact semV_localE _ _ _ _) (.cons ok_spec_l00Own (by first | exact semP_localE _ _ _ _ | exact semPG_localE _ _ _ _ _ | exact semV_localE _ _ _ _) .nil)))) rfl fun (s : SrcD) (x : Unit) ws wf hg K h => by
  obtain ⟨⟩ := x
  replace hg : (inS 500000 s) = true := hg
  replace h : K (tup (valRs [.agg [.own tN]] (((shapeV s, ()), ())) 1)) (.box (enc tSrc (shapeS s)) :: thRs [.agg [.own tN]] (((shapeV s, ()), ()))) := h
  rw [w_spec_l02DrawOk s  K]
  have hb : bytes s.1 := bytes_of ws.1
  have g6 : srcIn 6 s = true := inS_src hg (by omega) 6 (by omega)
  obtain ⟨n, hn, n1, n2, hok, f1, f2⟩ := sh1_ok hb
  have hs1 : sh1 s = shGo n (sh0 s) := by unfold sh1; rw [hn, Int.toNat_natCast]
  rw [g6, cond_true, hn, i64_of (n := (n : Int)) (by omega) (by omega)]
  refine loop_run (σ := Nat × ShD) (fun r => fr_spec_l02DrawOk_4 s [] [] r.1) (fun r => hp_spec_l02DrawOk_4 r.2.2.2 r.2.1 r.2.2.1 r.1) (fun r => r.1 ≤ n ∧ ShOk r.2 (n - r.1) ∧ Far s r.2.2.2 (2 + 26 * (n - r.1 : Nat)) ∧ shGo r.1 r.2 = sh1 s) (fun r => r.1) ?_ (n, sh0 s) ⟨Nat.le_refl _, by simp only [Nat.sub_self]; exact sh0_ok hb, by simp only [Nat.sub_self]; exact far_pick s 7, hs1.symm⟩
  rintro ⟨j, ns, fs, u⟩ ⟨hj, hq, hf, hgo⟩ Kn hk3
  simp only at hj hq hf hgo hk3 ⊢
  rw [show fr_spec_l02DrawOk_4 s [] [] j = fr_spec_l02DrawOk_4 u ns fs j from rfl, r_spec_l02DrawOk_4 u ns fs j Kn K]
  have hnl : ns.length = n - j := hq.l
  have hfl : fs.length ≤ ns.length := hq.st.len
  cases j with
  | zero =>
    rw [d_f (show ¬ ((0 : Nat) : Int) > 0 by omega), cond_false]
    have hgo : (ns, fs, u) = sh1 s := hgo
    have e1 : (sh1 s).2.1 = fs := by rw [← hgo]
    rw [e1] at f1 f2
    have hsh2 : sh2 s = clGo (fs.length - 1) (ns, fs, u) := by unfold sh2; rw [e1, hgo]
    refine loop_run (σ := Nat × ShD) (fun r => fr_spec_l02DrawOk_9 u [] []) (fun r => hp_spec_l02DrawOk_9 r.2.2.2 r.2.1 r.2.2.1) (fun r => r.2.2.1.length = r.1 + 1 ∧ (∃ m, ShOk r.2 m ∧ m + r.1 ≤ 14) ∧ Far s r.2.2.2 (200 + 2 * (14 - r.1 : Nat)) ∧ clGo r.1 r.2 = sh2 s) (fun r => r.1) ?_ (fs.length - 1, ns, fs, u) ⟨by simp only; omega, ⟨n - 0, hq, by simp only; omega⟩, hf.mono (by omega), hsh2.symm⟩
    rintro ⟨i, ms, es, v⟩ ⟨hl, ⟨m, hm, hmi⟩, hv, hcl⟩ Kn9 hk9
    simp only at hl hm hmi hv hcl hk9 ⊢
    rw [show fr_spec_l02DrawOk_9 u [] [] = fr_spec_l02DrawOk_9 v ms es from rfl, r_spec_l02DrawOk_9 v ms es Kn9 K]
    have hml : ms.length = m := hm.l
    cases i with
    | zero =>
      rw [d_f (show ¬ ((es.length : Nat) : Int) > 1 by omega), cond_false]
      have hcl : (ms, es, v) = sh2 s := hcl
      unfold shapeV shapeS at h
      rw [← hcl] at h
      exact h
    | succ i =>
      have hk1 := hk9 (i, clStep (ms, es, v))
      have bv : bytes v.1 := hv.bytes hb
      have r3 := pickV_range bv (n := 3) (by omega)
      have w2 : IntKind.i64.wrap ((es.length : Int) - 2) = ((es.length - 2 : Nat) : Int) := by rw [i64_of (by omega) (by omega)]; omega
      have w1 : IntKind.i64.wrap ((es.length : Int) - 1) = ((es.length - 1 : Nat) : Int) := by rw [i64_of (by omega) (by omega)]; omega
      have w5 : IntKind.i64.wrap (5 + pickV v 3) = 5 + pickV v 3 := i64_of (by omega) (by omega)
      have y2 : es[es.length - 2]? = some (at2 es 2) := by
        unfold at2
        rw [get_lt (show es.length - 2 < es.length by omega)]
        rfl
      have y1 : es[es.length - 1]? = some (at2 es 1) := by
        unfold at2
        rw [get_lt (show es.length - 1 < es.length by omega)]
        rfl
      have gv : srcIn 6 v = true := inS_src ((hv.ok hg (m := 900000) (by omega))) (by omega) 6 (by omega)
      have htl : (es.take (es.length - 2)).length = es.length - 2 := by rw [List.length_take]; omega
      have hcf : (clStep (ms, es, v)).2.1.length = i + 1 := by rw [clStep_free _ (by show 2 ≤ es.length; omega)]; show es.length - 1 = i + 1; omega
      have next := hk1 ⟨hcf, ⟨m + 1, clStep_ok hm (by show 2 ≤ es.length; omega), by have := hmi; show m + 1 + i ≤ 14; omega⟩, (hv.trans (far_pick v 3)).mono (by simp only; omega), hcl⟩ (by simp only; omega)
      simp only [d_t (show ((es.length : Nat) : Int) > 1 by omega), cond_true, w1, w2, w5, d_0, Int.toNat_natCast, blt_t (show es.length - 2 < es.length by omega), blt_t (show es.length - 1 < es.length by omega), Bool.and_self, y1, y2, gv, htl, d_t (show (0 : Int) ≤ 0 by omega), d_t (show ((es.length - 2 : Nat) : Int) ≤ (es.length : Int) by omega), d_t (show es.length - 2 ≤ 1000 by omega), d_t (show (es.length - 2 + 1) * 8 ≤ 140737488355328 by omega), d_t (show (ms.length + 1) * 48 ≤ 140737488355328 by omega)]
      exact next
  | succ j =>
    have hk1 := hk3 (j, shStep (ns, fs, u))
    have bu : bytes u.1 := hf.bytes hb
    have ur := used_range fs u
    obtain ⟨d, hd⟩ : ∃ d : Nat, ((fs.length : Int) - usedV fs u) = (d : Int) := ⟨((fs.length : Int) - usedV fs u).toNat, by omega⟩
    have w1 : IntKind.i64.wrap ((fs.length : Int) - usedV fs u) = (d : Int) := by rw [hd]; exact i64_of (by omega) (by omega)
    have wj : IntKind.i64.wrap (((j + 1 : Nat) : Int) - 1) = (j : Int) := by rw [i64_of (by omega) (by omega)]; omega
    have htl : (List.drop 0 (fs.take d)).length = d := by rw [List.drop_zero, List.length_take]; omega
    have gu : inS 800000 u = true := hf.ok hg (by omega)
    have next := hk1 ⟨by simp only; omega, by have := shStep_ok hq; rw [show n - (j + 1) + 1 = n - j by omega] at this; exact this, (hf.trans (far_node fs u)).mono (by simp only; omega), hgo⟩ (by simp only; omega)
    unfold shStep at next
    simp only [hd, Int.toNat_natCast] at next
    simp only [d_t (show ((j + 1 : Nat) : Int) > 0 by omega), cond_true, gu, w1, wj, d_0, Int.toNat_natCast, htl, d_t (show (0 : Int) ≤ 0 by omega), d_t (show (d : Int) ≤ (fs.length : Int) by omega), d_t (show d ≤ 1000 by omega), d_t (show (d + 1) * 8 ≤ 140737488355328 by omega), d_t (show (ns.length + 1) * 48 ≤ 140737488355328 by omega), Bool.and_self]
    exact next

end Go.Proofs.Ytfhpmcdbfebflaa

/- Floats as rational numbers: rungs and their magnitudes, and to what rung a number is rounded. -/
set_option linter.unusedVariables false
namespace Go.Ev
open Ieee

def pw (e : Int) : Rat := (2 : Rat) ^ e
theorem pw_pos (e : Int) : 0 < pw e := Rat.zpow_pos (by decide)
theorem pw_add (a b : Int) : pw (a + b) = pw a * pw b := Rat.zpow_add (by decide) a b
theorem pw_nat (n : Nat) : pw (n : Int) = ((2 ^ n : Nat) : Rat) := by
  unfold pw
  rw [Rat.zpow_natCast]
  induction n with
  | zero => rfl
  | succ n ih => rw [Rat.pow_succ, ih, Nat.pow_succ, Rat.natCast_mul]; rfl
theorem pw_zero : pw 0 = 1 := Rat.zpow_zero _
theorem pw_succ (e : Int) : pw (e + 1) = 2 * pw e := by
  rw [pw_add, Rat.mul_comm]; congr 1
theorem pw_le {a b : Int} (h : a ≤ b) : pw a ≤ pw b := by
  obtain ⟨n, rfl⟩ : ∃ n : Nat, b = a + n := ⟨(b - a).toNat, by omega⟩
  rw [pw_add, pw_nat]
  have h1 := pw_pos a
  have h2 : (1 : Rat) ≤ ((2 ^ n : Nat) : Rat) := by
    have := Nat.two_pow_pos n
    exact_mod_cast this
  calc pw a = pw a * 1 := by grind
    _ ≤ _ := Rat.mul_le_mul_of_nonneg_left h2 (Rat.le_of_lt h1)

namespace Fl
variable (f : Format)

theorem B0 : 0 < f.binade := Nat.two_pow_pos _

def mgN (r : Nat) : Nat := if r < f.binade then r else (f.binade + r % f.binade) * 2 ^ (r / f.binade - 1)
def mg (r : Nat) : Rat := (mgN f r : Rat) * pw f.leastPlace

theorem mgN_at (p j : Nat) (hj : j ≤ 2 * f.binade) (h : p = 0 ∨ f.binade ≤ j) : mgN f (p * f.binade + j) = j * 2 ^ p := by
  have b0 := B0 f
  unfold mgN
  generalize f.binade = B at *
  by_cases h1 : j < B
  · have : p = 0 := by omega
    subst this
    rw [if_pos (by omega)]
    simp
  · by_cases h2 : j = 2 * B
    · subst h2
      have e : p * B + 2 * B = (p + 2) * B := by rw [Nat.add_mul]
      have e3 : B ≤ (p + 2) * B := Nat.le_mul_of_pos_left B (by omega)
      rw [e, if_neg (by omega), Nat.mul_mod_left, Nat.mul_div_cancel _ b0]
      have : p + 2 - 1 = p + 1 := by omega
      rw [this, Nat.pow_succ, Nat.add_zero, Nat.mul_comm 2 B, Nat.mul_assoc, Nat.mul_comm 2 (2 ^ p)]
    · obtain ⟨t, rfl⟩ : ∃ t, j = B + t := ⟨j - B, by omega⟩
      have e : p * B + (B + t) = t + B * (p + 1) := by rw [Nat.mul_add, Nat.mul_comm]; omega
      have e3 : B ≤ B * (p + 1) := Nat.le_mul_of_pos_right B (by omega)
      rw [e, if_neg (by omega), Nat.add_mul_mod_self_left, Nat.mod_eq_of_lt (by omega), Nat.add_mul_div_left _ _ b0, Nat.div_eq_of_lt (by omega)]
      simp

theorem scale (r : Nat) : ∃ p j, r = p * f.binade + j ∧ j < 2 * f.binade ∧ (p = 0 ∨ f.binade ≤ j) := by
  have b0 := B0 f
  generalize f.binade = B at *
  by_cases h : r < B
  · exact ⟨0, r, by omega, by omega, .inl rfl⟩
  · have h1 := Nat.div_add_mod r B
    have h2 := Nat.mod_lt r b0
    have h3 : 1 ≤ r / B := (Nat.one_le_div_iff b0).2 (by omega)
    refine ⟨r / B - 1, B + r % B, ?_, by omega, .inr (by omega)⟩
    have : r / B = r / B - 1 + 1 := by omega
    rw [this, Nat.mul_add, Nat.mul_comm] at h1
    omega

theorem mgN_lt_succ (r : Nat) : mgN f r < mgN f (r + 1) := by
  obtain ⟨p, j, e, h1, h2⟩ := scale f r
  subst e
  rw [mgN_at f p j (by omega) h2, Nat.add_assoc, mgN_at f p (j + 1) (by omega) (by omega)]
  exact Nat.mul_lt_mul_of_pos_right (by omega) (Nat.two_pow_pos _)
theorem mgN_lt {r s : Nat} (h : r < s) : mgN f r < mgN f s := by
  induction s with
  | zero => omega
  | succ s ih =>
    by_cases e : r = s
    · subst e; exact mgN_lt_succ f r
    · exact Nat.lt_trans (ih (by omega)) (mgN_lt_succ f s)
theorem mgN_le {r s : Nat} (h : r ≤ s) : mgN f r ≤ mgN f s := by
  by_cases e : r = s
  · subst e; exact Nat.le_refl _
  · exact Nat.le_of_lt (mgN_lt f (by omega))
theorem mg_lt {r s : Nat} (h : r < s) : mg f r < mg f s :=
  Rat.mul_lt_mul_of_pos_right (Rat.natCast_lt_natCast.2 (mgN_lt f h)) (pw_pos _)
theorem mg_le {r s : Nat} (h : r ≤ s) : mg f r ≤ mg f s :=
  Rat.mul_le_mul_of_nonneg_right (Rat.natCast_le_natCast.2 (mgN_le f h)) (Rat.le_of_lt (pw_pos _))
theorem lt_of_mg {r s : Nat} (h : mg f r < mg f s) : r < s := by
  refine Nat.lt_of_not_le fun h2 => ?_
  have := mg_le f h2
  grind
theorem le_of_mg {r s : Nat} (h : mg f r ≤ mg f s) : r ≤ s := by
  refine Nat.le_of_not_lt fun h2 => ?_
  have := mg_lt f h2
  grind
theorem mg_inj {r s : Nat} (h : mg f r = mg f s) : r = s :=
  Nat.le_antisymm (le_of_mg f (by grind)) (le_of_mg f (by grind))
theorem mg_zero : mg f 0 = 0 := by
  have : mgN f 0 = 0 := by unfold mgN; rw [if_pos (B0 f)]
  unfold mg
  rw [this]
  exact Rat.zero_mul _
theorem mg_nonneg (r : Nat) : 0 ≤ mg f r := by rw [← mg_zero f]; exact mg_le f (Nat.zero_le r)
theorem mg_at (p j : Nat) (hj : j ≤ 2 * f.binade) (h : p = 0 ∨ f.binade ≤ j) : mg f (p * f.binade + j) = (j : Rat) * pw (f.leastPlace + p) := by
  unfold mg
  rw [mgN_at f p j hj h, pw_add, pw_nat, Rat.natCast_mul]
  grind

theorem cut_spec (neg : Bool) (n d : Nat) : 2 * n ≤ (2 * Toward.even.cut neg n d + 1) * 2 ^ d ∧ 2 * (Toward.even.cut neg n d) * 2 ^ d ≤ 2 * n + 2 ^ d ∧
    ((2 * n = (2 * Toward.even.cut neg n d + 1) * 2 ^ d ∨ 2 * (Toward.even.cut neg n d) * 2 ^ d = 2 * n + 2 ^ d) → Toward.even.cut neg n d % 2 = 0) := by
  unfold Toward.cut
  simp only []
  by_cases hd : d ≤ n.log2 + 2
  · rw [Nat.min_eq_left hd, Nat.shiftLeft_eq, Nat.one_mul]
    have g0 := Nat.two_pow_pos d
    generalize 2 ^ d = g at *
    have h1 := Nat.div_add_mod n g
    have h2 := Nat.mod_lt n g0
    generalize n / g = low at *
    generalize n % g = rest at *
    have e1 : (2 * low + 1) * g = 2 * (g * low) + g := by grind
    have e2 : (2 * (low + 1) + 1) * g = 2 * (g * low) + 3 * g := by grind
    have e3 : 2 * low * g = 2 * (g * low) := by grind
    have e4 : 2 * (low + 1) * g = 2 * (g * low) + 2 * g := by grind
    by_cases c1 : g < 2 * rest
    · have : (decide (g < 2 * rest) || g == 2 * rest && low % 2 == 1).toNat = 1 := by simp [c1]
      rw [this, e2, e4]
      refine ⟨by omega, by omega, fun h => ?_⟩
      omega
    · by_cases c2 : g = 2 * rest
      · by_cases c3 : low % 2 = 1
        · have : (decide (g < 2 * rest) || g == 2 * rest && low % 2 == 1).toNat = 1 := by simp [c2, c3]
          rw [this, e2, e4]
          refine ⟨by omega, by omega, fun h => ?_⟩
          omega
        · have : (decide (g < 2 * rest) || g == 2 * rest && low % 2 == 1).toNat = 0 := by simp [c2, c3]
          simp only [this, Nat.add_zero, e1, e3]
          refine ⟨by omega, by omega, fun h => ?_⟩
          omega
      · have : (decide (g < 2 * rest) || g == 2 * rest && low % 2 == 1).toNat = 0 := by simp [c1, c2]
        simp only [this, Nat.add_zero, e1, e3]
        refine ⟨by omega, by omega, fun h => ?_⟩
        omega
  · have hl : n < 2 ^ (n.log2 + 1) := Nat.lt_log2_self
    have hg : 2 ^ (n.log2 + 2) = 2 * 2 ^ (n.log2 + 1) := by rw [Nat.pow_succ, Nat.mul_comm]
    have hp : 2 ^ (n.log2 + 2) ≤ 2 ^ d := Nat.pow_le_pow_right (by omega) (by omega)
    rw [Nat.min_eq_right (by omega), Nat.shiftLeft_eq, Nat.one_mul, Nat.div_eq_of_lt (by omega), Nat.mod_eq_of_lt (by omega)]
    have : (decide (2 ^ (n.log2 + 2) < 2 * n) || 2 ^ (n.log2 + 2) == 2 * n && 0 % 2 == 1).toNat = 0 := by
      rw [decide_eq_false (by omega)]; simp
    rw [this]
    refine ⟨by omega, by omega, fun _ => rfl⟩

def rg (m : Nat) (e : Int) : Nat :=
  if m = 0 then 0 else
  min ((max (e + m.log2 - f.fractionBits) f.leastPlace - f.leastPlace).toNat * f.binade + Toward.even.cut false (m <<< (e - max (e + m.log2 - f.fractionBits) f.leastPlace).toNat) (max (e + m.log2 - f.fractionBits) f.leastPlace - e).toNat) f.infRung

theorem nearest_eq (neg : Bool) (m : Nat) (e : Int) : f.nearest neg m e = f.word neg (rg f m e) := by
  unfold Format.nearest rg
  by_cases h : m = 0
  · rw [if_pos h, if_pos h]
  · rw [if_neg h, if_neg h]
    rfl

theorem rg_scale {m : Nat} {e : Int} (hm : m ≠ 0) : ∃ p c : Nat, rg f m e = min (p * f.binade + c) f.infRung ∧ (p = 0 ∨ f.binade ≤ c) ∧ c ≤ 2 * f.binade ∧
    (p = 0 ∨ (f.binade : Rat) * pw (f.leastPlace + p) ≤ (m : Rat) * pw e) ∧ (m : Rat) * pw e < (2 * f.binade : Rat) * pw (f.leastPlace + p) ∧
    2 * ((m : Rat) * pw e) ≤ (2 * c + 1) * pw (f.leastPlace + p) ∧ (2 * c : Rat) * pw (f.leastPlace + p) ≤ 2 * ((m : Rat) * pw e) + pw (f.leastPlace + p) ∧
    ((2 * ((m : Rat) * pw e) = (2 * c + 1) * pw (f.leastPlace + p) ∨ (2 * c : Rat) * pw (f.leastPlace + p) = 2 * ((m : Rat) * pw e) + pw (f.leastPlace + p)) → c % 2 = 0) := by
  unfold rg
  rw [if_neg hm]
  have hlast : f.leastPlace ≤ max (e + m.log2 - f.fractionBits) f.leastPlace := Int.le_max_right _ _
  have hlast2 : e + m.log2 - f.fractionBits ≤ max (e + m.log2 - f.fractionBits) f.leastPlace := Int.le_max_left _ _
  have hlast3 : max (e + m.log2 - f.fractionBits) f.leastPlace = f.leastPlace ∨ max (e + m.log2 - f.fractionBits) f.leastPlace = e + m.log2 - f.fractionBits := by omega
  generalize max (e + m.log2 - f.fractionBits) f.leastPlace = last at *
  obtain ⟨p, hp⟩ : ∃ p : Nat, last = f.leastPlace + p := ⟨(last - f.leastPlace).toNat, by omega⟩
  have hp2 : (last - f.leastPlace).toNat = p := by omega
  rw [hp2]
  have hs := cut_spec false (m <<< (e - last).toNat) (last - e).toNat
  generalize hc : Toward.even.cut false (m <<< (e - last).toNat) (last - e).toNat = c at *
  -- the number in units
  have hx : (m : Rat) * pw e * ((2 ^ (last - e).toNat : Nat) : Rat) = ((m <<< (e - last).toNat : Nat) : Rat) * pw last := by
    rw [Nat.shiftLeft_eq, Rat.natCast_mul, ← pw_nat, ← pw_nat, Rat.mul_assoc, ← pw_add, Rat.mul_assoc, ← pw_add]
    congr 2
    omega
  have hu := pw_pos last
  have g0 : (0 : Rat) < ((2 ^ (last - e).toNat : Nat) : Rat) := Rat.natCast_pos.2 (Nat.two_pow_pos _)
  generalize m <<< (e - last).toNat = n at *
  generalize hgg : 2 ^ (last - e).toNat = g at *
  have b0 := B0 f
  -- bounds by the logarithm
  have hm1 : 2 ^ m.log2 ≤ m := Nat.log2_self_le hm
  have hm2 : m < 2 ^ (m.log2 + 1) := Nat.lt_log2_self
  have hlo : last = e + m.log2 - f.fractionBits → (f.binade : Rat) * pw last ≤ (m : Rat) * pw e := by
    intro h
    have e1 : (f.binade : Rat) * pw last = ((2 ^ m.log2 : Nat) : Rat) * pw e := by
      unfold Format.binade
      rw [← pw_nat, ← pw_nat, ← pw_add, ← pw_add]
      congr 1
      omega
    rw [e1]
    exact Rat.mul_le_mul_of_nonneg_right (Rat.natCast_le_natCast.2 hm1) (Rat.le_of_lt (pw_pos _))
  have hhi : (m : Rat) * pw e < (2 * f.binade : Rat) * pw last := by
    have e1 : (m : Rat) * pw e < ((2 ^ (m.log2 + 1) : Nat) : Rat) * pw e := Rat.mul_lt_mul_of_pos_right (Rat.natCast_lt_natCast.2 hm2) (pw_pos _)
    have e2 : ((2 ^ (m.log2 + 1) : Nat) : Rat) * pw e ≤ (2 * f.binade : Rat) * pw last := by
      have e3 : (2 * f.binade : Rat) = pw ((f.fractionBits + 1 : Nat) : Int) := by
        rw [pw_nat]
        unfold Format.binade
        rw [Nat.pow_succ, Rat.natCast_mul]
        grind
      rw [e3, ← pw_nat, ← pw_add, ← pw_add]
      exact pw_le (by omega)
    grind
  have hn0 : (0 : Rat) ≤ (n : Rat) := Rat.natCast_nonneg
  -- the cut in units
  obtain ⟨s1, s2, s3⟩ := hs
  have s1' : (2 * n : Rat) ≤ (2 * c + 1) * g := by
    have := Rat.natCast_le_natCast.2 s1
    simpa [Rat.natCast_mul, Rat.natCast_add] using this
  have s2' : (2 * c * g : Rat) ≤ 2 * n + g := by
    have := Rat.natCast_le_natCast.2 s2
    simpa [Rat.natCast_mul, Rat.natCast_add] using this
  have cancel : ∀ {a b : Rat}, a * g ≤ b * g → a ≤ b := fun h => Rat.le_of_mul_le_mul_right h g0
  have q1 : 2 * ((m : Rat) * pw e) ≤ (2 * c + 1) * pw last := by
    refine cancel ?_
    have := Rat.mul_le_mul_of_nonneg_right s1' (Rat.le_of_lt hu)
    grind
  have q2 : (2 * c : Rat) * pw last ≤ 2 * ((m : Rat) * pw e) + pw last := by
    refine cancel ?_
    have := Rat.mul_le_mul_of_nonneg_right s2' (Rat.le_of_lt hu)
    grind
  have uu : ∀ {a b : Rat}, a * pw last ≤ b * pw last → a ≤ b := fun h => Rat.le_of_mul_le_mul_right h hu
  have hcB : c ≤ 2 * f.binade := by
    have : (2 * c : Rat) * pw last < (4 * f.binade + 1) * pw last := by grind
    have h3 : (2 * c : Rat) < 4 * f.binade + 1 := Rat.lt_of_mul_lt_mul_right this (Rat.le_of_lt hu)
    have h4 : ((2 * c : Nat) : Rat) < ((4 * f.binade + 1 : Nat) : Rat) := by
      simpa [Rat.natCast_mul, Rat.natCast_add] using h3
    have := Rat.natCast_lt_natCast.1 h4
    omega
  have hpB : p = 0 ∨ f.binade ≤ c := by
    by_cases h0 : p = 0
    · exact .inl h0
    · right
      have h1 := hlo (by omega)
      have : (2 * f.binade : Rat) * pw last ≤ (2 * c + 1) * pw last := by grind
      have h3 := uu this
      have h4 : ((2 * f.binade : Nat) : Rat) ≤ ((2 * c + 1 : Nat) : Rat) := by
        simpa [Rat.natCast_mul, Rat.natCast_add] using h3
      have := Rat.natCast_le_natCast.1 h4
      omega
  refine ⟨p, c, rfl, hpB, hcB, ?_⟩
  rw [← hp]
  refine ⟨?_, hhi, q1, q2, ?_⟩
  · by_cases h0 : p = 0
    · exact .inl h0
    · exact .inr (hlo (by omega))
  · intro h
    apply s3
    have inj : ∀ {a b : Nat}, (a : Rat) = (b : Rat) → a = b := fun h => Nat.le_antisymm (Rat.natCast_le_natCast.1 (by grind)) (Rat.natCast_le_natCast.1 (by grind))
    have canc : ∀ {a b : Rat}, a * pw last = b * pw last → a = b := fun {a b} h => by
      have e1 := uu (a := a) (b := b) (by grind)
      have e2 := uu (a := b) (b := a) (by grind)
      grind
    rcases h with h | h
    · left
      apply inj
      rw [Rat.natCast_mul, Rat.natCast_mul, Rat.natCast_add, Rat.natCast_mul]
      apply canc
      have := congrArg (· * (g : Rat)) h
      grind
    · right
      apply inj
      rw [Rat.natCast_mul, Rat.natCast_mul, Rat.natCast_add, Rat.natCast_mul]
      apply canc
      have := congrArg (· * (g : Rat)) h
      grind

end Fl
end Go.Ev

/- Floats as rational numbers: the nearest rung. -/
set_option linter.unusedVariables false
namespace Go.Ev
open Ieee

namespace Fl
variable (f : Format)

theorem cast_pred {c : Nat} (h : c ≠ 0) : ((c - 1 : Nat) : Rat) = (c : Rat) - 1 := by
  have : ((c - 1 + 1 : Nat) : Rat) = ((c - 1 : Nat) : Rat) + 1 := by rw [Rat.natCast_add]; rfl
  rw [show c - 1 + 1 = c by omega] at this
  grind

structure Near (a : Rat) (r : Nat) : Prop where
  inf : r ≤ f.infRung
  lo : ∀ t, t ≤ f.infRung → mg f t ≤ a → t ≤ r
  hi : ∀ t, a ≤ mg f t → r ≤ t
  lt : ∀ t, t < f.infRung → 2 * a < mg f t + mg f (t + 1) → r ≤ t
  gt : ∀ t, t < f.infRung → mg f t + mg f (t + 1) < 2 * a → t + 1 ≤ r
  tie : ∀ t, t < f.infRung → 2 * a = mg f t + mg f (t + 1) → r = t + t % 2

variable {f}
theorem Near.mono {a b : Rat} {r s : Nat} (h1 : Near f a r) (h2 : Near f b s) (h : a ≤ b) : r ≤ s := by
  refine Nat.le_of_not_lt fun hlt => ?_
  have i1 := h1.inf
  have x1 : b < mg f (s + 1) := Rat.not_le.1 fun hc => by have := h2.lo _ (by omega) hc; omega
  have x2 : mg f (r - 1) < a := Rat.not_le.1 fun hc => by have := h1.hi _ hc; omega
  have x3 : mg f (r - 1) < mg f (s + 1) := by grind
  have x4 := lt_of_mg f x3
  have e : r = s + 1 := by omega
  subst e
  have y1 : ¬ 2 * a < mg f s + mg f (s + 1) := fun hc => by have := h1.lt s (by omega) hc; omega
  have y2 : ¬ mg f s + mg f (s + 1) < 2 * b := fun hc => by have := h2.gt s (by omega) hc; omega
  have z1 := h1.tie s (by omega) (by grind)
  have z2 := h2.tie s (by omega) (by grind)
  omega
theorem Near.exact {a : Rat} {r t : Nat} (h : Near f a r) (e : a = mg f t) (ht : t ≤ f.infRung) : r = t :=
  Nat.le_antisymm (h.hi t (by grind)) (h.lo t ht (by grind))

theorem rg_le_inf (m : Nat) (e : Int) : rg f m e ≤ f.infRung := by
  unfold rg
  split
  · omega
  · exact Nat.min_le_right _ _

theorem rg_near (hB : f.binade % 2 = 0) (m : Nat) (e : Int) : Near f ((m : Rat) * pw e) (rg f m e) := by
  by_cases hm : m = 0
  · subst hm
    have h0 : ((0 : Nat) : Rat) * pw e = 0 := Rat.zero_mul _
    have hr : rg f 0 e = 0 := by unfold rg; rw [if_pos rfl]
    rw [h0, hr]
    have pos : ∀ t, 0 < mg f (t + 1) := fun t => by rw [← mg_zero f]; exact mg_lt f (by omega)
    refine ⟨by omega, fun t _ h => ?_, fun t _ => by omega, fun t _ _ => by omega, fun t _ h => ?_, fun t _ h => ?_⟩
    · rw [← mg_zero f] at h; have := le_of_mg f h; omega
    · have := pos t; have := mg_nonneg f t; grind
    · have := pos t; have := mg_nonneg f t; grind
  obtain ⟨p, c, e1, h1, h2, h3, h4, h5, h6, h7⟩ := rg_scale f (e := e) hm
  have hinf := rg_le_inf (f := f) m e
  generalize rg f m e = r at *
  generalize (m : Rat) * pw e = a at *
  have hu := pw_pos (f.leastPlace + p)
  have b0 := B0 f
  have m1 : mg f (p * f.binade + c) = (c : Rat) * pw (f.leastPlace + p) := mg_at f p c h2 h1
  have eB : p * f.binade % 2 = 0 := by rw [Nat.mul_mod, hB]; simp
  -- below the rung
  have dn : ∀ t, t + 1 ≤ p * f.binade + c → mg f t + mg f (t + 1) ≤ 2 * a ∧ (mg f t + mg f (t + 1) = 2 * a → p * f.binade + c = t + 1 ∧ c % 2 = 0) := by
    intro t ht
    have m2 : mg f (t + 1) ≤ mg f (p * f.binade + c) := mg_le f ht
    have m5 : mg f t < mg f (t + 1) := mg_lt f (by omega)
    by_cases hc0 : c = 0
    · have : p = 0 := by omega
      subst this; subst hc0; omega
    · have hcm := cast_pred hc0
      by_cases hc : p = 0 ∨ f.binade ≤ c - 1
      · have m3 : mg f (p * f.binade + (c - 1)) = ((c : Rat) - 1) * pw (f.leastPlace + p) := by rw [mg_at f p (c - 1) (by omega) hc, hcm]
        have m4 : mg f t ≤ mg f (p * f.binade + (c - 1)) := mg_le f (by omega)
        refine ⟨by grind, fun he => ?_⟩
        have := mg_inj f (show mg f (t + 1) = mg f (p * f.binade + c) by grind)
        refine ⟨by omega, h7 (by right; grind)⟩
      · have hcB : c = f.binade := by omega
        rcases h3 with h3 | h3
        · omega
        · rw [← hcB] at h3
          exact ⟨by grind, fun he => by grind⟩
  -- above it
  have up : ∀ t, p * f.binade + c ≤ t → 2 * a ≤ mg f t + mg f (t + 1) ∧ (2 * a = mg f t + mg f (t + 1) → p * f.binade + c = t ∧ c % 2 = 0) := by
    intro t ht
    have m2 : mg f (p * f.binade + c) ≤ mg f t := mg_le f ht
    have m5 : mg f t < mg f (t + 1) := mg_lt f (by omega)
    by_cases hc : c + 1 ≤ 2 * f.binade
    · have m3 : mg f (p * f.binade + (c + 1)) = ((c : Rat) + 1) * pw (f.leastPlace + p) := by
        rw [mg_at f p (c + 1) hc (by omega), Rat.natCast_add]; rfl
      have m4 : mg f (p * f.binade + (c + 1)) ≤ mg f (t + 1) := mg_le f (by omega)
      refine ⟨by grind, fun he => ?_⟩
      have := mg_inj f (show mg f (p * f.binade + c) = mg f t by grind)
      refine ⟨by omega, h7 (by left; grind)⟩
    · have hcB : c = 2 * f.binade := by omega
      rw [hcB, Rat.natCast_mul] at m1
      have : ((2 : Nat) : Rat) = 2 := rfl
      exact ⟨by grind, fun he => by grind⟩
  have lo : ∀ t, t ≤ f.infRung → mg f t ≤ a → t ≤ r := by
    intro t ht h
    rw [e1]
    refine Nat.le_min.2 ⟨Nat.le_of_not_lt fun hlt => ?_, ht⟩
    have := (up (t - 1) (by omega)).1
    rw [show t - 1 + 1 = t by omega] at this
    have : mg f (t - 1) < mg f t := mg_lt f (by omega)
    grind
  have hi : ∀ t, a ≤ mg f t → r ≤ t := by
    intro t h
    rw [e1]
    refine Nat.le_trans (Nat.min_le_left _ _) (Nat.le_of_not_lt fun hlt => ?_)
    have := (dn t (by omega)).1
    have : mg f t < mg f (t + 1) := mg_lt f (by omega)
    grind
  refine ⟨hinf, lo, hi, fun t ht h => ?_, fun t ht h => ?_, fun t ht h => ?_⟩
  · refine Nat.le_of_not_lt fun hlt => ?_
    have := (dn t (by omega)).1
    grind
  · refine Nat.le_of_not_lt fun hlt => ?_
    have := (up t (by omega)).1
    grind
  · have m5 : mg f t < mg f (t + 1) := mg_lt f (by omega)
    have r1 := lo t (by omega) (by grind)
    have r2 := hi (t + 1) (by grind)
    by_cases e2 : r = t + 1
    · have := (dn t (by omega)).2 (by grind)
      omega
    · have := (up t (by omega)).2 (by grind)
      omega

end Fl
end Go.Ev

/- Floats as rational numbers: what words stand for, their order, and their operations. -/
set_option linter.unusedVariables false
set_option linter.unusedSimpArgs false
namespace Go.Ev
open Ieee

namespace Fl

theorem even_k (k : FloatKind) : k.format.binade % 2 = 0 := by cases k <;> decide
theorem sign_pos (k : FloatKind) : 0 < signOf k := by cases k <;> decide

def sg (k : FloatKind) (b : Nat) : Bool := b / signOf k % 2 == 1
def rung (k : FloatKind) (b : Nat) : Nat := b % signOf k
def sgd (s : Bool) (q : Rat) : Rat := bif s then -q else q
theorem sgd_sgd (s : Bool) (q : Rat) : sgd s (sgd s q) = q := by cases s <;> simp [sgd, Rat.neg_neg]
def ev (k : FloatKind) (b : Nat) : Rat := sgd (sg k b) (mg k.format (rung k b))
def fin (k : FloatKind) (b : Nat) : Bool := Nat.blt (rung k b) (infOf k)
theorem fin_iff {k : FloatKind} {b : Nat} : fin k b = true ↔ rung k b < infOf k := by simp [fin, Nat.blt_eq]
theorem nan_false {k : FloatKind} {b : Nat} : nan k b = false ↔ rung k b ≤ infOf k := by
  have := nan_iff k b
  unfold rung
  cases h : nan k b
  · simp [h] at this ⊢; exact this
  · simp [h] at this ⊢; omega
theorem fin_nan {k : FloatKind} {b : Nat} (h : fin k b = true) : nan k b = false := by
  rw [nan_false]; rw [fin_iff] at h; omega

theorem read_fin {k : FloatKind} {b : Nat} (h : fin k b = true) : ∃ m e, k.format.read b = .number (sg k b) m e ∧ (m : Rat) * pw e = mg k.format (rung k b) := by
  rw [fin_iff] at h
  unfold Format.read
  simp only [sign_eq, inf_eq]
  unfold rung sg mg mgN at *
  by_cases h1 : b % signOf k < k.format.binade
  · rw [if_pos h1, if_pos h1]
    exact ⟨_, _, rfl, rfl⟩
  · rw [if_neg h1, if_neg h1, if_pos h]
    refine ⟨_, _, rfl, ?_⟩
    rw [pw_add, pw_nat, Rat.natCast_mul]
    grind
theorem read_inf {k : FloatKind} {b : Nat} (h : rung k b = infOf k) : k.format.read b = .infinity (sg k b) := by
  have := binade_le k
  unfold Format.read
  simp only [sign_eq, inf_eq]
  unfold rung sg at *
  rw [if_neg (by omega), if_neg (by omega), if_pos h]

theorem word_sg {k : FloatKind} {s : Bool} {r : Nat} (h : r ≤ infOf k) : sg k (k.format.word s r) = s ∧ rung k (k.format.word s r) = r ∧ k.format.word s r < 2 * signOf k := by
  have := inf_lt_sign k
  have s0 := sign_pos k
  unfold Format.word sg rung
  rw [sign_eq]
  cases s
  · simp only [Bool.false_eq_true, if_false]
    rw [Nat.div_eq_of_lt (by omega)]
    exact ⟨rfl, Nat.mod_eq_of_lt (by omega), by omega⟩
  · simp only [if_true]
    rw [Nat.add_div_left _ s0, Nat.div_eq_of_lt (by omega), Nat.add_mod_left]
    exact ⟨rfl, Nat.mod_eq_of_lt (by omega), by omega⟩
theorem word_of {k : FloatKind} {b : Nat} (h : b < 2 * signOf k) : k.format.word (sg k b) (rung k b) = b := by
  have s0 := sign_pos k
  unfold Format.word sg rung
  rw [sign_eq]
  have h1 := Nat.div_add_mod b (signOf k)
  have h2 : b / signOf k < 2 := (Nat.div_lt_iff_lt_mul s0).2 h
  by_cases h3 : b / signOf k = 0
  · simp only [h3, Nat.mul_zero, Nat.zero_add] at h1
    simp [h3, h1]
  · have h4 : b / signOf k = 1 := Nat.le_antisymm (Nat.le_of_lt_succ h2) (Nat.pos_of_ne_zero h3)
    simp only [h4, Nat.mul_one] at h1
    simp [h4, h1]
theorem ev_word {k : FloatKind} {s : Bool} {r : Nat} (h : r ≤ infOf k) : ev k (k.format.word s r) = sgd s (mg k.format r) := by
  unfold ev
  rw [(word_sg h).1, (word_sg h).2.1]

theorem near_self {f : Format} (hB : f.binade % 2 = 0) {r : Nat} (h : r ≤ f.infRung) : Near f (mg f r) r := by
  have h1 := rg_near hB (mgN f r) f.leastPlace
  have h2 := h1.exact (t := r) rfl h
  rw [h2] at h1
  exact h1

def Rnd (k : FloatKind) (q : Rat) (b : Nat) : Prop := ∃ s r, b = k.format.word s r ∧ 0 ≤ sgd s q ∧ Near k.format (sgd s q) r

theorem Rnd.of {k : FloatKind} {s : Bool} {m : Nat} {e : Int} {q : Rat} (h : sgd s ((m : Rat) * pw e) = q) : Rnd k q (k.format.nearest s m e) := by
  refine ⟨s, rg k.format m e, nearest_eq _ _ _ _, ?_, ?_⟩
  · rw [← h, sgd_sgd]
    exact Rat.mul_nonneg Rat.natCast_nonneg (Rat.le_of_lt (pw_pos _))
  · rw [← h, sgd_sgd]
    exact rg_near (even_k k) m e
theorem Rnd.nan {k : FloatKind} {q : Rat} {b : Nat} (h : Rnd k q b) : nan k b = false := by
  obtain ⟨s, r, rfl, _, h1⟩ := h
  exact nan_word s (inf_eq k ▸ h1.inf)
theorem Rnd.lt2 {k : FloatKind} {q : Rat} {b : Nat} (h : Rnd k q b) : b < 2 * signOf k := by
  obtain ⟨s, r, rfl, _, h1⟩ := h
  exact (word_sg (inf_eq k ▸ h1.inf)).2.2
theorem rnd_self {k : FloatKind} {b : Nat} (h : nan k b = false) (h2 : b < 2 * signOf k) : Rnd k (ev k b) b := by
  rw [nan_false] at h
  refine ⟨sg k b, rung k b, (word_of h2).symm, ?_, ?_⟩
  · unfold ev; rw [sgd_sgd]; exact mg_nonneg _ _
  · unfold ev; rw [sgd_sgd]; exact near_self (even_k k) (by rw [inf_eq]; exact h)
theorem Rnd.mono {k : FloatKind} {q q' : Rat} {b b' : Nat} (h : Rnd k q b) (h' : Rnd k q' b') (hq : q ≤ q') : ev k b ≤ ev k b' := by
  obtain ⟨s, r, rfl, p1, n1⟩ := h
  obtain ⟨s', r', rfl, p2, n2⟩ := h'
  have i1 := n1.inf
  have i2 := n2.inf
  rw [inf_eq] at i1 i2
  rw [ev_word i1, ev_word i2]
  have a1 := mg_nonneg k.format r
  have a2 := mg_nonneg k.format r'
  cases s <;> cases s' <;> simp only [sgd, cond_true, cond_false] at *
  · exact mg_le _ (n1.mono n2 hq)
  · have e1 : q = 0 := by grind
    have e2 : q' = 0 := by grind
    subst e1
    have z1 : r = 0 := by have := n1.hi 0 (by rw [mg_zero]; grind); omega
    have z2 : r' = 0 := by have := n2.hi 0 (by rw [mg_zero]; grind); omega
    subst z1; subst z2
    rw [mg_zero]; grind
  · grind
  · have := mg_le k.format (n2.mono n1 (by grind))
    grind
theorem Rnd.exact {k : FloatKind} {q : Rat} {b w : Nat} (h : Rnd k q b) (hw : Go.Ev.nan k w = false) (hw2 : w < 2 * signOf k) (e : q = ev k w) : ev k b = ev k w := by
  have h2 := rnd_self hw hw2
  have a := h.mono h2 (by grind)
  have b := h2.mono h (by grind)
  grind
theorem Rnd.le {k : FloatKind} {q : Rat} {b w : Nat} (h : Rnd k q b) (hw : Go.Ev.nan k w = false) (hw2 : w < 2 * signOf k) (e : q ≤ ev k w) : ev k b ≤ ev k w := h.mono (rnd_self hw hw2) e
theorem Rnd.ge {k : FloatKind} {q : Rat} {b w : Nat} (h : Rnd k q b) (hw : Go.Ev.nan k w = false) (hw2 : w < 2 * signOf k) (e : ev k w ≤ q) : ev k w ≤ ev k b := (rnd_self hw hw2).mono h e

theorem ev_inj {k : FloatKind} {x y : Nat} (hx : x < 2 * signOf k) (hy : y < 2 * signOf k) (h : ev k x = ev k y) (h0 : ev k x ≠ 0) : x = y := by
  have e1 := word_of hx
  have e2 := word_of hy
  have a1 := mg_nonneg k.format (rung k x)
  have a2 := mg_nonneg k.format (rung k y)
  unfold ev at h h0
  have hs : sg k x = sg k y := by
    cases s1 : sg k x <;> cases s2 : sg k y <;> simp only [s1, s2, sgd, cond_true, cond_false] at h h0 <;> first | rfl | (exfalso; grind)
  have hr : rung k x = rung k y := by
    apply mg_inj k.format
    rw [hs] at h
    have := congrArg (sgd (sg k y)) h
    rwa [sgd_sgd, sgd_sgd] at this
  rw [← e1, ← e2, hs, hr]
theorem ev_zero {k : FloatKind} {x : Nat} (hx : x < 2 * signOf k) : ev k x = 0 ↔ x = 0 ∨ x = signOf k := by
  have e1 := word_of hx
  unfold ev
  constructor
  · intro h
    have h0 : mg k.format (rung k x) = mg k.format 0 := by
      rw [mg_zero]
      cases e : sg k x <;> rw [e] at h
      · exact h
      · have h : -mg k.format (rung k x) = 0 := h
        grind
    have := mg_inj k.format h0
    rw [this] at e1
    unfold Format.word at e1
    rw [sign_eq] at e1
    cases s : sg k x <;> simp only [s, Bool.false_eq_true, if_false, if_true] at e1
    · exact .inl e1.symm
    · exact .inr e1.symm
  · intro h
    have : rung k x = 0 := by
      unfold rung
      rcases h with rfl | rfl
      · exact Nat.zero_mod _
      · exact Nat.mod_self _
    rw [this, mg_zero]
    cases sg k x <;> simp [sgd]

def cmpQ (x y : Rat) : Ordering := if x < y then .lt else if x = y then .eq else .gt
theorem cmpQ_lt {x y : Rat} (h : x < y) : cmpQ x y = .lt := by unfold cmpQ; rw [if_pos h]
theorem cmpQ_eq {x y : Rat} (h : x = y) : cmpQ x y = .eq := by
  subst h; unfold cmpQ; rw [if_neg Rat.lt_irrefl, if_pos rfl]
theorem cmpQ_gt {x y : Rat} (h : y < x) : cmpQ x y = .gt := by
  unfold cmpQ; rw [if_neg (by grind), if_neg (by grind)]
theorem compare_rat {a b : Int} {x y u : Rat} (hu : 0 < u) (ha : (a : Rat) * u = x) (hb : (b : Rat) * u = y) : compare a b = cmpQ x y := by
  subst ha; subst hb
  rcases Int.lt_trichotomy a b with h | h | h
  · rw [cmpQ_lt (Rat.mul_lt_mul_of_pos_right (Rat.intCast_lt_intCast.2 h) hu)]
    exact Int.compare_eq_lt.2 h
  · subst h
    rw [cmpQ_eq rfl]
    exact Int.compare_eq_eq.2 rfl
  · rw [cmpQ_gt (Rat.mul_lt_mul_of_pos_right (Rat.intCast_lt_intCast.2 h) hu)]
    exact Int.compare_eq_gt.2 h
theorem signed_rat (s : Bool) (m : Nat) (i b : Int) (h : b ≤ i) : ((signed s m (i - b).toNat : Int) : Rat) * pw b = sgd s ((m : Rat) * pw i) := by
  have e : ((m <<< (i - b).toNat : Nat) : Rat) * pw b = (m : Rat) * pw i := by
    rw [Nat.shiftLeft_eq, Rat.natCast_mul, ← pw_nat, Rat.mul_assoc, ← pw_add]
    congr 2
    omega
  unfold signed
  cases s
  · show (((m <<< (i - b).toNat : Nat) : Int) : Rat) * pw b = (m : Rat) * pw i
    rw [← e]; rfl
  · show ((-((m <<< (i - b).toNat : Nat) : Int) : Int) : Rat) * pw b = -((m : Rat) * pw i)
    rw [← e, Rat.intCast_neg, Rat.neg_mul]; rfl

theorem order_ev {k : FloatKind} {x y : Nat} (hx : nan k x = false) (hy : nan k y = false) :
    k.format.order x y = some (cmpQ (ev k x) (ev k y)) := by
  rw [nan_false] at hx hy
  unfold Format.order
  have ltinf : ∀ r, r < infOf k → mg k.format r < mg k.format (infOf k) := fun r h => mg_lt _ h
  have nn := mg_nonneg k.format
  have i0 : 0 < mg k.format (infOf k) := by
    have : mg k.format 0 < mg k.format (infOf k) := mg_lt _ (by cases k <;> decide)
    rwa [mg_zero] at this
  have ev_t : ∀ {b}, sg k b = true → ev k b = -mg k.format (rung k b) := fun h => by unfold ev; rw [h]; rfl
  have ev_f : ∀ {b}, sg k b = false → ev k b = mg k.format (rung k b) := fun h => by unfold ev; rw [h]; rfl
  by_cases fx : rung k x = infOf k <;> by_cases fy : rung k y = infOf k
  · rw [read_inf fx, read_inf fy]
    cases s1 : sg k x <;> cases s2 : sg k y <;> simp only [Datum.order]
    · rw [ev_f s1, ev_f s2, fx, fy, cmpQ_eq rfl]; rfl
    · rw [ev_f s1, ev_t s2, fx, fy, cmpQ_gt (by grind)]; rfl
    · rw [ev_t s1, ev_f s2, fx, fy, cmpQ_lt (by grind)]; rfl
    · rw [ev_t s1, ev_t s2, fx, fy, cmpQ_eq rfl]; rfl
  · obtain ⟨m, e, h1, h2⟩ := read_fin (k := k) (b := y) (fin_iff.2 (by omega))
    rw [read_inf fx, h1]
    have := ltinf (rung k y) (by omega)
    have := nn (rung k y)
    cases s1 : sg k x <;> cases s2 : sg k y <;> simp only [Datum.order]
    · rw [ev_f s1, ev_f s2, fx, cmpQ_gt (by grind)]; rfl
    · rw [ev_f s1, ev_t s2, fx, cmpQ_gt (by grind)]; rfl
    · rw [ev_t s1, ev_f s2, fx, cmpQ_lt (by grind)]; rfl
    · rw [ev_t s1, ev_t s2, fx, cmpQ_lt (by grind)]; rfl
  · obtain ⟨m, e, h1, h2⟩ := read_fin (k := k) (b := x) (fin_iff.2 (by omega))
    rw [read_inf fy, h1]
    have := ltinf (rung k x) (by omega)
    have := nn (rung k x)
    cases s1 : sg k x <;> cases s2 : sg k y <;> simp only [Datum.order]
    · rw [ev_f s1, ev_f s2, fy, cmpQ_lt (by grind)]; rfl
    · rw [ev_f s1, ev_t s2, fy, cmpQ_gt (by grind)]; rfl
    · rw [ev_t s1, ev_f s2, fy, cmpQ_lt (by grind)]; rfl
    · rw [ev_t s1, ev_t s2, fy, cmpQ_gt (by grind)]; rfl
  · obtain ⟨m, e, h1, h2⟩ := read_fin (k := k) (b := x) (fin_iff.2 (by omega))
    obtain ⟨m', e', h1', h2'⟩ := read_fin (k := k) (b := y) (fin_iff.2 (by omega))
    rw [h1, h1']
    simp only [Datum.order]
    unfold ev
    rw [← h2, ← h2']
    exact congrArg some (compare_rat (pw_pos _) (signed_rat _ _ _ _ (Int.min_le_left _ _)) (signed_rat _ _ _ _ (Int.min_le_right _ _)))

section
variable {k : FloatKind} {x y : Nat}
theorem flt_ev (hx : nan k x = false) (hy : nan k y = false) : flt k x y = decide (ev k x < ev k y) := by
  unfold flt; rw [order_ev hx hy]
  by_cases h : ev k x < ev k y
  · rw [cmpQ_lt h]
    first | rw [decide_eq_true (by grind)]; rfl | rw [decide_eq_false (by grind)]; rfl
  · by_cases h' : ev k x = ev k y
    · rw [cmpQ_eq h']
      first | rw [decide_eq_true (by grind)]; rfl | rw [decide_eq_false (by grind)]; rfl
    · rw [cmpQ_gt (by grind)]
      first | rw [decide_eq_true (by grind)]; rfl | rw [decide_eq_false (by grind)]; rfl
theorem feq_ev (hx : nan k x = false) (hy : nan k y = false) : feq k x y = decide (ev k x = ev k y) := by
  unfold feq; rw [order_ev hx hy]
  by_cases h : ev k x < ev k y
  · rw [cmpQ_lt h]
    first | rw [decide_eq_true (by grind)]; rfl | rw [decide_eq_false (by grind)]; rfl
  · by_cases h' : ev k x = ev k y
    · rw [cmpQ_eq h']
      first | rw [decide_eq_true (by grind)]; rfl | rw [decide_eq_false (by grind)]; rfl
    · rw [cmpQ_gt (by grind)]
      first | rw [decide_eq_true (by grind)]; rfl | rw [decide_eq_false (by grind)]; rfl
theorem fle_ev (hx : nan k x = false) (hy : nan k y = false) : fle k x y = decide (ev k x ≤ ev k y) := by
  unfold fle; rw [order_ev hx hy]
  by_cases h : ev k x < ev k y
  · rw [cmpQ_lt h]
    first | rw [decide_eq_true (by grind)]; rfl | rw [decide_eq_false (by grind)]; rfl
  · by_cases h' : ev k x = ev k y
    · rw [cmpQ_eq h']
      first | rw [decide_eq_true (by grind)]; rfl | rw [decide_eq_false (by grind)]; rfl
    · rw [cmpQ_gt (by grind)]
      first | rw [decide_eq_true (by grind)]; rfl | rw [decide_eq_false (by grind)]; rfl
theorem fgt_ev (hx : nan k x = false) (hy : nan k y = false) : fgt k x y = decide (ev k y < ev k x) := by
  unfold fgt; rw [order_ev hx hy]
  by_cases h : ev k x < ev k y
  · rw [cmpQ_lt h]
    first | rw [decide_eq_true (by grind)]; rfl | rw [decide_eq_false (by grind)]; rfl
  · by_cases h' : ev k x = ev k y
    · rw [cmpQ_eq h']
      first | rw [decide_eq_true (by grind)]; rfl | rw [decide_eq_false (by grind)]; rfl
    · rw [cmpQ_gt (by grind)]
      first | rw [decide_eq_true (by grind)]; rfl | rw [decide_eq_false (by grind)]; rfl
theorem fge_ev (hx : nan k x = false) (hy : nan k y = false) : fge k x y = decide (ev k y ≤ ev k x) := by
  unfold fge; rw [order_ev hx hy]
  by_cases h : ev k x < ev k y
  · rw [cmpQ_lt h]
    first | rw [decide_eq_true (by grind)]; rfl | rw [decide_eq_false (by grind)]; rfl
  · by_cases h' : ev k x = ev k y
    · rw [cmpQ_eq h']
      first | rw [decide_eq_true (by grind)]; rfl | rw [decide_eq_false (by grind)]; rfl
    · rw [cmpQ_gt (by grind)]
      first | rw [decide_eq_true (by grind)]; rfl | rw [decide_eq_false (by grind)]; rfl
theorem order_nan (h : nan k x = true ∨ nan k y = true) : k.format.order x y = none := by
  unfold Format.order
  rcases h with h | h
  · obtain ⟨s, t, e⟩ := read_nan h; rw [e]; exact order_nan_l _ _ _
  · obtain ⟨s, t, e⟩ := read_nan h; rw [e]; exact order_nan_r _ _ _
theorem feq_nan (h : nan k x = true ∨ nan k y = true) : feq k x y = false := by unfold feq; rw [order_nan h]; rfl
theorem fge_nan (h : nan k x = true ∨ nan k y = true) : fge k x y = false := by unfold fge; rw [order_nan h]; rfl

theorem sgd_mul (s t : Bool) (a b : Rat) : sgd (s ^^ t) (a * b) = sgd s a * sgd t b := by
  cases s <;> cases t <;> simp [sgd, Rat.neg_mul, Rat.mul_neg, Rat.neg_neg]
theorem fmul_rnd (hx : fin k x = true) (hy : fin k y = true) : Rnd k (ev k x * ev k y) (fmul k x y) := by
  obtain ⟨m, e, h1, h2⟩ := read_fin hx
  obtain ⟨m', e', h1', h2'⟩ := read_fin hy
  unfold fmul Format.mul
  rw [h1, h1']
  simp only [Datum.product, Option.map_some, orNan, Format.write]
  apply Rnd.of
  unfold ev
  rw [← h2, ← h2', ← sgd_mul, pw_add, Rat.natCast_mul]
  congr 1
  grind
theorem fadd_core {s t : Bool} {m n : Nat} {i j : Int} :
    ∃ d, (Datum.number s m i).sum (.number t n j) = some d ∧ Rnd k (sgd s ((m : Rat) * pw i) + sgd t ((n : Rat) * pw j)) (k.format.write d) ∧
      (sgd s ((m : Rat) * pw i) + sgd t ((n : Rat) * pw j) = 0 → k.format.write d = k.format.word (s && t) 0) := by
  refine ⟨_, rfl, ?_, ?_⟩
  · simp only [Format.write]
    apply Rnd.of
    have e1 := signed_rat s m i (min i j) (Int.min_le_left _ _)
    have e2 := signed_rat t n j (min i j) (Int.min_le_right _ _)
    rw [← e1, ← e2, ← Rat.add_mul, ← Rat.intCast_add]
    generalize signed s m (i - min i j).toNat + signed t n (j - min i j).toNat = total
    by_cases h0 : total = 0
    · subst h0
      simp only [if_true, Int.natAbs_zero]
      have : ((0 : Nat) : Rat) * pw (min i j) = 0 := Rat.zero_mul _
      rw [this, Rat.intCast_zero, Rat.zero_mul]
      cases s && t <;> simp [sgd]
    · rw [if_neg h0]
      by_cases h : total < 0
      · rw [decide_eq_true h]
        simp only [sgd, cond_true]
        rw [← Rat.neg_mul]
        congr 1
        have : total = -(total.natAbs : Int) := by omega
        rw [this, Rat.intCast_neg, Int.natAbs_neg, Int.natAbs_natCast]
        rfl
      · rw [decide_eq_false h]
        simp only [sgd, cond_false]
        congr 1
        have : total = (total.natAbs : Int) := by omega
        rw [this, Int.natAbs_natCast]
        rfl
  · intro h
    have e1 := signed_rat s m i (min i j) (Int.min_le_left _ _)
    have e2 := signed_rat t n j (min i j) (Int.min_le_right _ _)
    rw [← e1, ← e2, ← Rat.add_mul, ← Rat.intCast_add] at h
    simp only [Format.write]
    generalize signed s m (i - min i j).toNat + signed t n (j - min i j).toNat = total at *
    have : total = 0 := by
      rcases Rat.mul_eq_zero.1 h with h | h
      · exact_mod_cast h
      · have := pw_pos (min i j); grind
    subst this
    simp [Format.nearest]
theorem fadd_rnd (hx : fin k x = true) (hy : fin k y = true) : Rnd k (ev k x + ev k y) (fadd k x y) := by
  obtain ⟨m, e, h1, h2⟩ := read_fin hx
  obtain ⟨m', e', h1', h2'⟩ := read_fin hy
  obtain ⟨d, g1, g2, _⟩ := fadd_core (k := k) (s := sg k x) (t := sg k y) (m := m) (n := m') (i := e) (j := e')
  unfold fadd Format.add
  rw [h1, h1', g1]
  unfold ev
  rw [← h2, ← h2']
  exact g2
theorem sgd_not (s : Bool) (q : Rat) : sgd (!s) q = -sgd s q := by cases s <;> simp [sgd, Rat.neg_neg]
theorem fsub_rnd (hx : fin k x = true) (hy : fin k y = true) : Rnd k (ev k x - ev k y) (fsub k x y) := by
  obtain ⟨m, e, h1, h2⟩ := read_fin hx
  obtain ⟨m', e', h1', h2'⟩ := read_fin hy
  obtain ⟨d, g1, g2, _⟩ := fadd_core (k := k) (s := sg k x) (t := !sg k y) (m := m) (n := m') (i := e) (j := e')
  unfold fsub Format.sub
  rw [h1, h1']
  simp only [Datum.opposite]
  rw [g1]
  unfold ev
  rw [← h2, ← h2']
  rw [sgd_not, ← Rat.sub_eq_add_neg] at g2
  exact g2
end

end Fl
end Go.Ev

/- Floats as rational numbers: which numbers are words, quotients, other kinds. -/
set_option linter.unusedVariables false
set_option linter.unusedSimpArgs false
namespace Go.Ev
open Ieee

theorem pw_lt_of {a b : Int} (h : pw a < pw b) : a < b := by
  refine Int.lt_of_not_ge fun hc => ?_
  have := pw_le hc
  grind
namespace Fl

theorem Near.between {f : Format} {x a lo hi : Rat} {r : Nat} (h : Near f x r) (h1 : ∀ t, mg f t ≤ lo ∨ hi ≤ mg f t) (h2 : ∀ t, mg f t + mg f (t + 1) ≤ 2 * lo ∨ 2 * hi ≤ mg f t + mg f (t + 1))
    (x1 : lo < x) (x2 : x < hi) (a1 : lo < a) (a2 : a < hi) : Near f a r := by
  refine ⟨h.inf, fun t ht e => h.lo t ht ?_, fun t e => h.hi t ?_, fun t ht e => h.lt t ht ?_, fun t ht e => h.gt t ht ?_, fun t ht e => ?_⟩
  · rcases h1 t with g | g <;> grind
  · rcases h1 t with g | g <;> grind
  · rcases h2 t with g | g <;> grind
  · rcases h2 t with g | g <;> grind
  · rcases h2 t with g | g <;> grind

theorem cast_odd {w : Nat} : ((w / 2 : Nat) : Rat) * 2 ≤ (w : Rat) ∧ (w : Rat) ≤ ((w / 2 : Nat) : Rat) * 2 + 1 := by
  have h1 : w / 2 * 2 ≤ w := by omega
  have h2 : w ≤ w / 2 * 2 + 1 := by omega
  have h1 := Rat.natCast_le_natCast.2 h1
  have h2 := Rat.natCast_le_natCast.2 h2
  rw [Rat.natCast_mul] at h1
  rw [Rat.natCast_add, Rat.natCast_mul] at h2
  exact ⟨h1, h2⟩

theorem mid1 {w v h : Rat} (e : w = 2 * v) : 2 * ((w + 1) * h) ≤ v * (2 * h) + (v + 1) * (2 * h) := by subst e; grind
theorem mid2 {w v h : Rat} (e : w = 2 * v + 1) : v * (2 * h) + (v + 1) * (2 * h) ≤ 2 * (w * h) := by subst e; grind
theorem sticky_gap {f : Format} {S : Nat} {g : Int} (hS : 2 ^ (f.fractionBits + 2) ≤ S) (hodd : S % 2 = 1) :
    ∃ lo hi : Rat, 0 ≤ lo ∧ lo ≤ ((S : Rat) - 1) * pw g ∧ ((S : Rat) + 1) * pw g ≤ hi ∧ (∀ t, mg f t ≤ lo ∨ hi ≤ mg f t) ∧ (∀ t, mg f t + mg f (t + 1) ≤ 2 * lo ∨ 2 * hi ≤ mg f t + mg f (t + 1)) := by
  have hS0 : S ≠ 0 := by omega
  obtain ⟨p, c, e1, s1, s2, s3, s4, _⟩ := rg_scale f (e := g) hS0
  have hg := pw_pos g
  have b0 := B0 f
  have hSc : ((2 ^ (f.fractionBits + 2) : Nat) : Rat) ≤ (S : Rat) := Rat.natCast_le_natCast.2 hS
  -- the scale's half is an even number of units
  have hK : g + 1 < f.leastPlace + p := by
    have t1 : pw (g + 1 + (f.fractionBits + 1 : Nat)) ≤ (S : Rat) * pw g := by
      have : pw (g + 1 + (f.fractionBits + 1 : Nat)) = ((2 ^ (f.fractionBits + 2) : Nat) : Rat) * pw g := by
        rw [← pw_nat, ← pw_add]; congr 1; omega
      rw [this]
      exact Rat.mul_le_mul_of_nonneg_right hSc (Rat.le_of_lt hg)
    have t2 : (2 * f.binade : Rat) * pw (f.leastPlace + p) = pw (f.leastPlace + p + (f.fractionBits + 1 : Nat)) := by
      rw [pw_add _ ((f.fractionBits + 1 : Nat) : Int), pw_nat]
      unfold Format.binade
      rw [Nat.pow_succ, Rat.natCast_mul]
      grind
    rw [t2] at s4
    have := pw_lt_of (show pw (g + 1 + (f.fractionBits + 1 : Nat)) < pw (f.leastPlace + p + (f.fractionBits + 1 : Nat)) by grind)
    omega
  obtain ⟨K, hKe⟩ : ∃ K : Nat, f.leastPlace + p = g + 1 + (K + 1 : Nat) := ⟨(f.leastPlace + p - g - 2).toNat, by omega⟩
  have hh : pw (f.leastPlace + p) = 2 * (((2 ^ (K + 1) : Nat) : Rat) * pw g) := by
    rw [hKe, pw_add, pw_succ, pw_nat]; grind
  have hH : (2 ^ (K + 1)) % 2 = 0 := by rw [Nat.pow_succ]; simp
  have H0 := Nat.two_pow_pos (K + 1)
  generalize 2 ^ (K + 1) = H at *
  have d1 := Nat.div_add_mod S H
  have d2 := Nat.mod_lt S H0
  have d3 : S % H % 2 = 1 := by rw [Nat.mod_mod_of_dvd _ (Nat.dvd_of_mod_eq_zero hH)]; exact hodd
  generalize S / H = w at *
  generalize S % H = ρ at *
  have hh0 : 0 < (H : Rat) * pw g := Rat.mul_pos (Rat.natCast_pos.2 H0) hg
  -- the ends
  have l1 : (w : Rat) * ((H : Rat) * pw g) ≤ ((S : Rat) - 1) * pw g := by
    have : H * w + 1 ≤ S := by omega
    have := Rat.natCast_le_natCast.2 this
    rw [Rat.natCast_add, Rat.natCast_mul] at this
    have := Rat.mul_le_mul_of_nonneg_right this (Rat.le_of_lt hg)
    grind
  have l2 : ((S : Rat) + 1) * pw g ≤ ((w : Rat) + 1) * ((H : Rat) * pw g) := by
    have : S + 1 ≤ H * w + H := by omega
    have := Rat.natCast_le_natCast.2 this
    rw [Rat.natCast_add, Rat.natCast_add, Rat.natCast_mul] at this
    have := Rat.mul_le_mul_of_nonneg_right this (Rat.le_of_lt hg)
    grind
  generalize hhg : (H : Rat) * pw g = h at *
  rw [hh] at s3 s4
  -- where the scale's digits lie
  have j1 : p = 0 ∨ f.binade ≤ w / 2 := by
    rcases s3 with s3 | s3
    · exact .inl s3
    · right
      have : (2 * f.binade : Rat) * h < ((w : Rat) + 1) * h := by grind
      have := Rat.lt_of_mul_lt_mul_right this (Rat.le_of_lt hh0)
      have : ((2 * f.binade : Nat) : Rat) < ((w + 1 : Nat) : Rat) := by
        rw [Rat.natCast_add, Rat.natCast_mul]; exact this
      have := Rat.natCast_lt_natCast.1 this
      omega
  have j2 : w / 2 + 1 ≤ 2 * f.binade := by
    have : (w : Rat) * h < (4 * f.binade : Rat) * h := by grind
    have := Rat.lt_of_mul_lt_mul_right this (Rat.le_of_lt hh0)
    have : ((w : Nat) : Rat) < ((4 * f.binade : Nat) : Rat) := by
      rw [Rat.natCast_mul]; exact this
    have := Rat.natCast_lt_natCast.1 this
    omega
  obtain ⟨c1, c2⟩ := cast_odd (w := w)
  have m1 : mg f (p * f.binade + w / 2) = ((w / 2 : Nat) : Rat) * (2 * h) := by rw [mg_at f p (w / 2) (by omega) j1, hh]
  have m2 : mg f (p * f.binade + (w / 2 + 1)) = (((w / 2 : Nat) : Rat) + 1) * (2 * h) := by
    rw [mg_at f p (w / 2 + 1) j2 (by omega), hh, Rat.natCast_add]; rfl
  have k1 : ((w / 2 : Nat) : Rat) * (2 * h) ≤ (w : Rat) * h := by
    have := Rat.mul_le_mul_of_nonneg_right c1 (Rat.le_of_lt hh0)
    grind
  have k2 : ((w : Rat) + 1) * h ≤ (((w / 2 : Nat) : Rat) + 1) * (2 * h) := by
    have : (w : Rat) + 1 ≤ (((w / 2 : Nat) : Rat) + 1) * 2 := by grind
    have := Rat.mul_le_mul_of_nonneg_right this (Rat.le_of_lt hh0)
    grind
  refine ⟨(w : Rat) * h, ((w : Rat) + 1) * h, Rat.mul_nonneg Rat.natCast_nonneg (Rat.le_of_lt hh0), l1, l2, fun t => ?_, fun t => ?_⟩
  · by_cases ht : t ≤ p * f.binade + w / 2
    · left
      have := mg_le f ht
      grind
    · right
      have := mg_le f (show p * f.binade + (w / 2 + 1) ≤ t by omega)
      grind
  · by_cases ht : t + 1 ≤ p * f.binade + w / 2
    · left
      have a1 := mg_le f ht
      have a2 := mg_lt f (show t < t + 1 by omega)
      grind
    · by_cases ht2 : t = p * f.binade + w / 2
      · subst ht2
        rw [Nat.add_assoc, m1, m2]
        by_cases ho : w = 2 * (w / 2)
        · right
          have : (w : Rat) = 2 * ((w / 2 : Nat) : Rat) := by
            have := congrArg (fun n : Nat => (n : Rat)) ho
            rw [Rat.natCast_mul] at this
            exact this
          exact mid1 this
        · left
          have ho : w = 2 * (w / 2) + 1 := by omega
          have : (w : Rat) = 2 * ((w / 2 : Nat) : Rat) + 1 := by
            have := congrArg (fun n : Nat => (n : Rat)) ho
            rw [Rat.natCast_add, Rat.natCast_mul] at this
            exact this
          exact mid2 this
      · right
        have a1 := mg_le f (show p * f.binade + (w / 2 + 1) ≤ t by omega)
        have a2 := mg_lt f (show t < t + 1 by omega)
        grind

theorem near_sticky {f : Format} (hB : f.binade % 2 = 0) {S : Nat} {g : Int} {a : Rat} (hS : 2 ^ (f.fractionBits + 2) ≤ S) (hodd : S % 2 = 1)
    (h1 : ((S : Rat) - 1) * pw g < a) (h2 : a < ((S : Rat) + 1) * pw g) : Near f a (rg f S g) := by
  obtain ⟨lo, hi, _, l1, l2, t1, t2⟩ := sticky_gap (g := g) hS hodd
  have hg := pw_pos g
  exact (rg_near hB S g).between t1 t2 (by grind) (by grind) (by grind) (by grind)

theorem fdiv_rnd {k : FloatKind} {x y : Nat} (hx : fin k x = true) (hy : fin k y = true) (h0 : ev k y ≠ 0) : Rnd k (ev k x / ev k y) (fdiv k x y) := by
  obtain ⟨m, i, h1, h2⟩ := read_fin hx
  obtain ⟨n, j, h1', h2'⟩ := read_fin hy
  have hn : n ≠ 0 := by
    intro e
    subst e
    have : ((0 : Nat) : Rat) * pw j = 0 := Rat.zero_mul _
    rw [this] at h2'
    apply h0
    unfold ev
    rw [← h2']
    cases sg k y <;> simp [sgd]
  unfold fdiv Format.div
  rw [h1, h1']
  simp only [Datum.quotient, if_neg hn, Option.map_some, orNan, Format.write, Nat.shiftLeft_eq]
  generalize hmore : k.format.fractionBits + 2 + n.log2 - m.log2 = more
  have hnp : (0 : Rat) < (n : Rat) := Rat.natCast_pos.2 (by omega)
  have hjp := pw_pos j
  have hd : (0 : Rat) < (n : Rat) * pw j := Rat.mul_pos hnp hjp
  have hev : ev k x / ev k y = sgd (sg k x ^^ sg k y) (((m : Rat) * pw i) / ((n : Rat) * pw j)) := by
    unfold ev
    rw [← h2, ← h2', Rat.div_def, Rat.div_def, sgd_mul]
    congr 1
    cases sg k y
    · rfl
    · simp only [sgd, cond_true]
      exact Rat.inv_eq_of_mul_eq_one (by rw [Rat.neg_mul, Rat.mul_neg, Rat.neg_neg]; exact Rat.mul_inv_cancel _ (by grind))
  -- the quotient in units
  have hq : ((m : Rat) * pw i) / ((n : Rat) * pw j) * (n : Rat) = (2 * ((m * 2 ^ more : Nat) : Rat)) * pw (i - j - more - 1) := by
    have e1 : ((m : Rat) * pw i) / ((n : Rat) * pw j) * ((n : Rat) * pw j) = (m : Rat) * pw i := Rat.div_mul_cancel (by grind)
    have e2 : ((m : Rat) * pw i) / ((n : Rat) * pw j) * (n : Rat) * pw j = ((2 * ((m * 2 ^ more : Nat) : Rat)) * pw (i - j - more - 1)) * pw j := by
      rw [Rat.mul_assoc, e1, Rat.natCast_mul, ← pw_nat]
      have : pw i = 2 * (pw (more : Nat) * (pw (i - j - more - 1) * pw j)) := by
        rw [← pw_add, ← pw_add, ← pw_succ]; congr 1; omega
      rw [this]; grind
    have l1 := Rat.le_of_mul_le_mul_right (show _ * pw j ≤ _ * pw j by rw [e2]; grind) hjp
    have l2 := Rat.le_of_mul_le_mul_right (show ((2 * ((m * 2 ^ more : Nat) : Rat)) * pw (i - j - more - 1)) * pw j ≤ ((m : Rat) * pw i) / ((n : Rat) * pw j) * (n : Rat) * pw j by rw [e2]; grind) hjp
    grind
  have hq0 : 0 ≤ ((m : Rat) * pw i) / ((n : Rat) * pw j) := by
    rw [Rat.div_def]
    exact Rat.mul_nonneg (Rat.mul_nonneg Rat.natCast_nonneg (Rat.le_of_lt (pw_pos _))) (Rat.le_of_lt (Rat.inv_pos.2 hd))
  rw [hev]
  generalize ((m : Rat) * pw i) / ((n : Rat) * pw j) = q at *
  have hu := pw_pos (i - j - more - 1)
  refine ⟨sg k x ^^ sg k y, _, nearest_eq _ _ _ _, by rw [sgd_sgd]; exact hq0, ?_⟩
  rw [sgd_sgd]
  have dm := Nat.div_add_mod (m * 2 ^ more) n
  have dl := Nat.mod_lt (m * 2 ^ more) (Nat.pos_of_ne_zero hn)
  have dmR : (n : Rat) * ((m * 2 ^ more / n : Nat) : Rat) + ((m * 2 ^ more % n : Nat) : Rat) = ((m * 2 ^ more : Nat) : Rat) := by
    rw [← Rat.natCast_mul, ← Rat.natCast_add, dm]
  by_cases hr : m * 2 ^ more % n = 0
  · rw [hr]
    simp only [bne_self_eq_false, Bool.toNat_false, Nat.add_zero]
    have : q = ((2 * (m * 2 ^ more / n) : Nat) : Rat) * pw (i - j - more - 1) := by
      rw [hr] at dmR
      have e3 : q * (n : Rat) = (((2 * (m * 2 ^ more / n) : Nat) : Rat) * pw (i - j - more - 1)) * (n : Rat) := by
        rw [hq, ← dmR, Rat.natCast_mul]
        have : ((0 : Nat) : Rat) = 0 := rfl
        have : ((2 : Nat) : Rat) = 2 := rfl
        grind
      have l1 := Rat.le_of_mul_le_mul_right (show q * (n : Rat) ≤ _ * (n : Rat) by rw [e3]; grind) hnp
      have l2 := Rat.le_of_mul_le_mul_right (show (((2 * (m * 2 ^ more / n) : Nat) : Rat) * pw (i - j - more - 1)) * (n : Rat) ≤ q * (n : Rat) by rw [e3]; grind) hnp
      grind
    rw [this]
    exact rg_near (even_k k) _ _
  · have hb : (m * 2 ^ more % n != 0).toNat = 1 := by simp [hr]
    rw [hb]
    have hm : m ≠ 0 := by
      intro e; subst e; simp at hr
    have hrp : 0 < m * 2 ^ more % n := Nat.pos_of_ne_zero hr
    have hS : 2 ^ (k.format.fractionBits + 2) ≤ 2 * (m * 2 ^ more / n) + 1 := by
      have a1 : 2 ^ m.log2 ≤ m := Nat.log2_self_le hm
      have a2 : n < 2 ^ (n.log2 + 1) := Nat.lt_log2_self
      have a3 : 2 ^ (k.format.fractionBits + 2 + n.log2) ≤ m * 2 ^ more := by
        have : 2 ^ (k.format.fractionBits + 2 + n.log2) ≤ 2 ^ (m.log2 + more) := Nat.pow_le_pow_right (by omega) (by omega)
        rw [Nat.pow_add 2 m.log2] at this
        exact Nat.le_trans this (Nat.mul_le_mul_right _ a1)
      have a4 : 2 ^ (k.format.fractionBits + 1) ≤ m * 2 ^ more / n := by
        rw [Nat.le_div_iff_mul_le (Nat.pos_of_ne_zero hn)]
        refine Nat.le_trans (Nat.mul_le_mul_left _ (Nat.le_of_lt a2)) ?_
        rw [← Nat.pow_add]
        have : k.format.fractionBits + 1 + (n.log2 + 1) = k.format.fractionBits + 2 + n.log2 := by omega
        rw [this]
        exact a3
      have : 2 ^ (k.format.fractionBits + 2) = 2 * 2 ^ (k.format.fractionBits + 1) := by rw [Nat.pow_succ, Nat.mul_comm]
      omega
    refine near_sticky (even_k k) hS (by omega) ?_ ?_
    · have : ((2 * (m * 2 ^ more / n) + 1 : Nat) : Rat) - 1 = 2 * ((m * 2 ^ more / n : Nat) : Rat) := by
        rw [Rat.natCast_add, Rat.natCast_mul]
        have : ((1 : Nat) : Rat) = 1 := rfl
        have : ((2 : Nat) : Rat) = 2 := rfl
        grind
      rw [this]
      have rp : (0 : Rat) < ((m * 2 ^ more % n : Nat) : Rat) := Rat.natCast_pos.2 hrp
      have e3 : (2 * ((m * 2 ^ more / n : Nat) : Rat)) * pw (i - j - more - 1) * (n : Rat) < q * (n : Rat) := by
        rw [hq, ← dmR]
        have := Rat.mul_pos rp hu
        grind
      exact Rat.lt_of_mul_lt_mul_right e3 (Rat.le_of_lt hnp)
    · have : ((2 * (m * 2 ^ more / n) + 1 : Nat) : Rat) + 1 = 2 * ((m * 2 ^ more / n : Nat) : Rat) + 2 := by
        rw [Rat.natCast_add, Rat.natCast_mul]
        have : ((1 : Nat) : Rat) = 1 := rfl
        have : ((2 : Nat) : Rat) = 2 := rfl
        grind
      rw [this]
      have rp : ((m * 2 ^ more % n : Nat) : Rat) < (n : Rat) := Rat.natCast_lt_natCast.2 dl
      have e3 : q * (n : Rat) < (2 * ((m * 2 ^ more / n : Nat) : Rat) + 2) * pw (i - j - more - 1) * (n : Rat) := by
        rw [hq, ← dmR]
        have := Rat.mul_lt_mul_of_pos_right rp hu
        grind
      exact Rat.lt_of_mul_lt_mul_right e3 (Rat.le_of_lt hnp)

theorem rep_rung (f : Format) (p : Nat) : ∀ n, n ≤ 2 * f.binade → ∃ t, mg f t = (n : Rat) * pw (f.leastPlace + p) := by
  induction p with
  | zero =>
    intro n hn
    refine ⟨0 * f.binade + n, ?_⟩
    exact mg_at f 0 n hn (.inl rfl)
  | succ p ih =>
    intro n hn
    by_cases h : f.binade ≤ n
    · exact ⟨(p + 1) * f.binade + n, mg_at f (p + 1) n hn (.inr h)⟩
    · obtain ⟨t, ht⟩ := ih (2 * n) (by omega)
      refine ⟨t, ?_⟩
      rw [ht, show f.leastPlace + ((p + 1 : Nat) : Int) = f.leastPlace + p + 1 by omega, pw_succ, Rat.natCast_mul]
      have : ((2 : Nat) : Rat) = 2 := rfl
      grind
theorem mg_inf (k : FloatKind) : mg k.format (infOf k) = match k with | .f32 => pw 128 | .f64 => pw 1024 := by
  cases k
  · have := mg_at (FloatKind.f32.format) 253 (2 * FloatKind.f32.format.binade) (Nat.le_refl _) (.inr (by decide))
    rw [show 253 * FloatKind.f32.format.binade + 2 * FloatKind.f32.format.binade = infOf .f32 by decide, show 2 * FloatKind.f32.format.binade = 2 ^ 24 by decide, ← pw_nat, ← pw_add] at this
    rw [this]; rfl
  · have := mg_at (FloatKind.f64.format) 2045 (2 * FloatKind.f64.format.binade) (Nat.le_refl _) (.inr (by decide))
    rw [show 2045 * FloatKind.f64.format.binade + 2 * FloatKind.f64.format.binade = infOf .f64 by decide, show 2 * FloatKind.f64.format.binade = 2 ^ 53 by decide, ← pw_nat, ← pw_add] at this
    rw [this]; rfl

def Rep (k : FloatKind) (q : Rat) : Prop := ∃ w, fin k w = true ∧ w < 2 * signOf k ∧ ev k w = q
theorem Rep.neg {k : FloatKind} {q : Rat} (h : Rep k q) : Rep k (-q) := by
  obtain ⟨w, h1, h2, h3⟩ := h
  rw [fin_iff] at h1
  have := word_sg (k := k) (s := !sg k w) (r := rung k w) (by omega)
  refine ⟨k.format.word (!sg k w) (rung k w), fin_iff.2 (by rw [this.2.1]; exact h1), this.2.2, ?_⟩
  rw [ev_word (by omega), sgd_not, ← h3]
  rfl
theorem rep_nat {k : FloatKind} {n : Nat} {e : Int} (hn : n ≤ 2 * k.format.binade) (he : k.format.leastPlace ≤ e) (hi : (n : Rat) * pw e < mg k.format (infOf k)) : Rep k ((n : Rat) * pw e) := by
  obtain ⟨t, ht⟩ := rep_rung k.format (e - k.format.leastPlace).toNat n hn
  rw [show k.format.leastPlace + ((e - k.format.leastPlace).toNat : Int) = e by omega] at ht
  have hlt : t < infOf k := lt_of_mg k.format (by rw [ht]; exact hi)
  have := word_sg (k := k) (s := false) (r := t) (by omega)
  refine ⟨k.format.word false t, fin_iff.2 (by rw [this.2.1]; exact hlt), this.2.2, ?_⟩
  rw [ev_word (by omega), ← ht]
  rfl
theorem Rnd.rep {k : FloatKind} {q : Rat} {b : Nat} (h : Rnd k q b) (hr : Rep k q) : fin k b = true ∧ b < 2 * signOf k ∧ ev k b = q := by
  obtain ⟨w, h1, h2, h3⟩ := hr
  have e := h.exact (fin_nan h1) h2 h3.symm
  refine ⟨?_, h.lt2, by rw [e, h3]⟩
  have hb := nan_false.1 h.nan
  have hw := fin_iff.1 h1
  rw [fin_iff]
  refine Nat.lt_of_not_le fun hc => ?_
  have hbi : rung k b = infOf k := by omega
  have i1 := mg_lt k.format hw
  have n1 := mg_nonneg k.format (rung k w)
  unfold ev at e
  rw [hbi] at e
  cases s1 : sg k b <;> cases s2 : sg k w <;> rw [s1, s2] at e <;> simp only [sgd, cond_true, cond_false] at e <;> grind

end Fl
end Go.Ev

/- Floats as rational numbers: exact steps, kinds, signs. -/
set_option linter.unusedVariables false
set_option linter.unusedSimpArgs false
namespace Go.Ev
open Ieee

namespace Fl

structure Ex (k : FloatKind) (x : Nat) (q : Rat) : Prop where
  f : fin k x = true
  l : x < 2 * signOf k
  e : ev k x = q
variable {k : FloatKind} {x y : Nat} {p q : Rat}
theorem Ex.nan (h : Ex k x q) : Go.Ev.nan k x = false := fin_nan h.f
theorem Rnd.ex (h : Rnd k q x) (hr : Rep k q) : Ex k x q := let ⟨a, b, c⟩ := h.rep hr; ⟨a, b, c⟩
theorem Ex.rep (h : Ex k x q) : Rep k q := ⟨x, h.f, h.l, h.e⟩
theorem Ex.radd (hx : Ex k x p) (hy : Ex k y q) : Rnd k (p + q) (fadd k x y) := by
  have := fadd_rnd hx.f hy.f; rwa [hx.e, hy.e] at this
theorem Ex.rsub (hx : Ex k x p) (hy : Ex k y q) : Rnd k (p - q) (fsub k x y) := by
  have := fsub_rnd hx.f hy.f; rwa [hx.e, hy.e] at this
theorem Ex.rmul (hx : Ex k x p) (hy : Ex k y q) : Rnd k (p * q) (fmul k x y) := by
  have := fmul_rnd hx.f hy.f; rwa [hx.e, hy.e] at this
theorem Ex.rdiv (hx : Ex k x p) (hy : Ex k y q) (h0 : q ≠ 0) : Rnd k (p / q) (fdiv k x y) := by
  have := fdiv_rnd hx.f hy.f (by rw [hy.e]; exact h0); rwa [hx.e, hy.e] at this
theorem Ex.add (hx : Ex k x p) (hy : Ex k y q) (h : Rep k (p + q)) : Ex k (fadd k x y) (p + q) := (hx.radd hy).ex h
theorem Ex.sub (hx : Ex k x p) (hy : Ex k y q) (h : Rep k (p - q)) : Ex k (fsub k x y) (p - q) := (hx.rsub hy).ex h
theorem Ex.mul (hx : Ex k x p) (hy : Ex k y q) (h : Rep k (p * q)) : Ex k (fmul k x y) (p * q) := (hx.rmul hy).ex h
theorem Ex.div (hx : Ex k x p) (hy : Ex k y q) (h0 : q ≠ 0) (h : Rep k (p / q)) : Ex k (fdiv k x y) (p / q) := (hx.rdiv hy h0).ex h
theorem Ex.feq (hx : Ex k x p) (hy : Ex k y q) : feq k x y = decide (p = q) := by rw [feq_ev hx.nan hy.nan, hx.e, hy.e]
theorem Ex.flt (hx : Ex k x p) (hy : Ex k y q) : flt k x y = decide (p < q) := by rw [flt_ev hx.nan hy.nan, hx.e, hy.e]
theorem Ex.fle (hx : Ex k x p) (hy : Ex k y q) : fle k x y = decide (p ≤ q) := by rw [fle_ev hx.nan hy.nan, hx.e, hy.e]
theorem Ex.fgt (hx : Ex k x p) (hy : Ex k y q) : fgt k x y = decide (q < p) := by rw [fgt_ev hx.nan hy.nan, hx.e, hy.e]
theorem Ex.fge (hx : Ex k x p) (hy : Ex k y q) : fge k x y = decide (q ≤ p) := by rw [fge_ev hx.nan hy.nan, hx.e, hy.e]
theorem Ex.inj (hx : Ex k x p) (hy : Ex k y p) (h0 : p ≠ 0) : x = y := ev_inj hx.l hy.l (by rw [hx.e, hy.e]) (by rw [hx.e]; exact h0)

theorem rep_int {n : Int} {e : Int} (hn : n.natAbs ≤ 2 * k.format.binade) (he : k.format.leastPlace ≤ e) (hi : (n.natAbs : Rat) * pw e < mg k.format (infOf k)) : Rep k ((n : Rat) * pw e) := by
  have h := rep_nat hn he hi
  by_cases h0 : 0 ≤ n
  · have : (n : Rat) = (n.natAbs : Rat) := by
      have : n = (n.natAbs : Int) := by omega
      exact congrArg (fun z : Int => (z : Rat)) this
    rw [this]; exact h
  · have : (n : Rat) = -(n.natAbs : Rat) := by
      have : n = -(n.natAbs : Int) := by omega
      have := congrArg (fun z : Int => (z : Rat)) this
      rw [Rat.intCast_neg] at this
      exact this
    rw [this, Rat.neg_mul]
    exact h.neg
theorem rep32 (n : Int) (s : Nat) (h : q * ((2 ^ s : Nat) : Rat) = n) (h1 : n.natAbs ≤ 16777216) (h2 : s ≤ 149) : Rep .f32 q := by
  have e : q = (n : Rat) * pw (-(s : Int)) := by
    rw [← h, ← pw_nat, Rat.mul_assoc, ← pw_add, Int.add_right_neg, pw_zero, Rat.mul_one]
  rw [e]
  refine rep_int h1 (by have : FloatKind.f32.format.leastPlace = -149 := rfl; omega) ?_
  rw [mg_inf]
  have a1 : pw (-(s : Int)) ≤ pw 0 := pw_le (by omega)
  have a2 : (n.natAbs : Rat) ≤ ((2 ^ 24 : Nat) : Rat) := Rat.natCast_le_natCast.2 h1
  have a3 : (n.natAbs : Rat) * pw (-(s : Int)) ≤ (n.natAbs : Rat) * pw 0 := Rat.mul_le_mul_of_nonneg_left a1 Rat.natCast_nonneg
  have a4 : pw ((24 : Nat) : Int) < pw 128 := by
    have : pw 128 = ((2 ^ 128 : Nat) : Rat) := pw_nat 128
    rw [pw_nat, this]
    exact Rat.natCast_lt_natCast.2 (by decide)
  rw [pw_nat] at a4
  rw [pw_zero] at a3
  have : (n.natAbs : Rat) * pw (-(s : Int)) < pw 128 := by grind
  exact this
theorem rnd_int (n : Int) : Rnd k (n : Rat) (k.nearest n) := by
  unfold FloatKind.nearest FloatKind.encode
  simp only [Format.write]
  apply Rnd.of
  rw [pw_zero, Rat.mul_one]
  by_cases h : n < 0
  · rw [decide_eq_true h]
    have : n = -(n.natAbs : Int) := by omega
    have := congrArg (fun z : Int => (z : Rat)) this
    rw [Rat.intCast_neg] at this
    exact this.symm
  · rw [decide_eq_false h]
    have : n = (n.natAbs : Int) := by omega
    have := congrArg (fun z : Int => (z : Rat)) this
    exact this.symm
theorem ex_int32 {n : Int} (h : n.natAbs ≤ 16777216) : Ex .f32 (FloatKind.f32.nearest n) (n : Rat) :=
  (rnd_int n).ex (rep32 n 0 (by rw [Nat.pow_zero]; exact Rat.mul_one _) h (by omega))
theorem xor_low {n r : Nat} (h : r < 2 ^ n) : r ^^^ 2 ^ n = 2 ^ n + r := by
  apply Nat.eq_of_testBit_eq
  intro i
  rw [Nat.testBit_xor, Nat.testBit_two_pow]
  rcases Nat.lt_trichotomy i n with hi | hi | hi
  · rw [Nat.testBit_two_pow_add_gt hi, decide_eq_false (by omega), Bool.xor_false]
  · subst hi
    rw [Nat.testBit_two_pow_add_eq, Nat.testBit_lt_two_pow h]
    simp
  · have h1 : 2 ^ n + r < 2 ^ i := by
      have : 2 ^ (n + 1) ≤ 2 ^ i := Nat.pow_le_pow_right (by omega) hi
      rw [Nat.pow_succ] at this
      omega
    rw [Nat.testBit_lt_two_pow h1, Nat.testBit_lt_two_pow (by omega : r < 2 ^ i), decide_eq_false (by omega)]
    rfl
theorem sign_two (k : FloatKind) : ∃ n, signOf k = 2 ^ n := by
  cases k
  · exact ⟨31, rfl⟩
  · exact ⟨63, rfl⟩
theorem xor_word (k : FloatKind) {s : Bool} {r : Nat} (h : r ≤ infOf k) : k.format.word s r ^^^ signOf k = k.format.word (!s) r := by
  obtain ⟨n, hn⟩ := sign_two k
  have h2 := inf_lt_sign k
  unfold Format.word
  rw [sign_eq, hn]
  have := xor_low (n := n) (r := r) (by omega)
  cases s
  · simp only [Bool.not_false, Bool.false_eq_true, if_false, if_true]
    exact this
  · simp only [Bool.not_true, Bool.false_eq_true, if_false, if_true]
    rw [← this, Nat.xor_assoc, Nat.xor_self, Nat.xor_zero]
theorem fneg_word (hx : Go.Ev.nan k x = false) (hl : x < 2 * signOf k) : fneg k x = k.format.word (!sg k x) (rung k x) := by
  have hr := nan_false.1 hx
  unfold fneg
  have h1 := xor_word k (s := sg k x) hr
  rw [word_of hl] at h1
  rw [h1, canon_not (nan_word _ hr)]
theorem fneg_ev (hx : Go.Ev.nan k x = false) (hl : x < 2 * signOf k) : ev k (fneg k x) = -ev k x ∧ Go.Ev.nan k (fneg k x) = false ∧ fneg k x < 2 * signOf k ∧ rung k (fneg k x) = rung k x ∧ sg k (fneg k x) = !sg k x := by
  have hr := nan_false.1 hx
  rw [fneg_word hx hl]
  have hw := word_sg (k := k) (s := !sg k x) hr
  refine ⟨?_, nan_word _ hr, hw.2.2, hw.2.1, hw.1⟩
  rw [ev_word hr, sgd_not]; rfl
theorem Ex.neg (hx : Ex k x p) : Ex k (fneg k x) (-p) := by
  obtain ⟨h1, h2, h3, h4, _⟩ := fneg_ev hx.nan hx.l
  exact ⟨by rw [fin_iff, h4]; exact fin_iff.1 hx.f, h3, by rw [h1, hx.e]⟩

theorem sub_self (hl : x < 2 * signOf k) : Go.Ev.feq k (fsub k x x) 0 = fin k x := by
  have z : Ex k 0 0 := ⟨by cases k <;> decide, by cases k <;> decide, (ev_zero (by cases k <;> decide)).2 (.inl rfl)⟩
  by_cases h : fin k x = true
  · have hx : Ex k x (ev k x) := ⟨h, hl, rfl⟩
    have h0 : ev k x - ev k x = 0 := by grind
    have := (hx.sub hx (by rw [h0]; exact z.rep)).feq z
    rw [this, h0, h]; simp
  · have hf : fin k x = false := by simpa using h
    rw [hf]
    have : fsub k x x = qnan k := by
      unfold fsub Format.sub
      cases hn : Go.Ev.nan k x with
      | true =>
        obtain ⟨s, t, e⟩ := read_nan hn
        rw [e]; rfl
      | false =>
        have hr := nan_false.1 hn
        have : ¬ rung k x < infOf k := fun hc => h (fin_iff.2 hc)
        rw [read_inf (by omega)]
        cases sg k x <;> rfl
    rw [this]
    exact feq_nan (.inl (nan_qnan k))

theorem read_fin2 {b : Nat} (h : fin k b = true) : ∃ m e, k.format.read b = .number (sg k b) m e ∧ (m : Rat) * pw e = mg k.format (rung k b) ∧ m < 2 * k.format.binade ∧ k.format.leastPlace ≤ e := by
  obtain ⟨m, e, h1, h2⟩ := read_fin h
  refine ⟨m, e, h1, h2, ?_⟩
  rw [fin_iff] at h
  unfold Format.read at h1
  simp only [sign_eq, inf_eq] at h1
  unfold rung at h
  have b0 := B0 k.format
  by_cases g1 : b % signOf k < k.format.binade
  · rw [if_pos g1] at h1
    injection h1 with _ h3 h4
    subst h3; subst h4
    exact ⟨by omega, Int.le_refl _⟩
  · rw [if_neg g1, if_pos h] at h1
    injection h1 with _ h3 h4
    subst h3; subst h4
    have := Nat.mod_lt (b % signOf k) b0
    exact ⟨by omega, by omega⟩
theorem widen_ex {b : Nat} (h : Ex .f32 b q) : Ex .f64 (widen b) q := by
  obtain ⟨m, e, h1, h2, h3, h4⟩ := read_fin2 h.f
  have hq : sgd (sg .f32 b) ((m : Rat) * pw e) = q := by rw [h2]; exact h.e
  have hw : widen b = FloatKind.f64.format.nearest (sg .f32 b) m e := by
    unfold widen FloatKind.encode FloatKind.decode
    rw [h.nan, h1]
    rfl
  rw [hw]
  refine (Rnd.of hq).ex ?_
  have hr : Rep .f64 ((m : Rat) * pw e) := by
    refine rep_nat ?_ ?_ ?_
    · have : FloatKind.f32.format.binade = 8388608 := rfl
      have : FloatKind.f64.format.binade = 4503599627370496 := rfl
      omega
    · have : FloatKind.f32.format.leastPlace = -149 := rfl
      have : FloatKind.f64.format.leastPlace = -1074 := rfl
      omega
    · rw [h2]
      have a1 := mg_lt FloatKind.f32.format (fin_iff.1 h.f)
      have a2 : mg FloatKind.f32.format (infOf .f32) = pw 128 := mg_inf .f32
      have a3 : mg FloatKind.f64.format (infOf .f64) = pw 1024 := mg_inf .f64
      have a4 : pw 128 ≤ pw 1024 := pw_le (by omega)
      rw [a3]; rw [a2] at a1
      grind
  rw [← hq]
  cases sg .f32 b
  · exact hr
  · exact hr.neg
theorem narrow_rnd {b : Nat} (h : Ex .f64 b q) : Rnd .f32 q (narrow b) := by
  obtain ⟨m, e, h1, h2, h3, h4⟩ := read_fin2 h.f
  have hq : sgd (sg .f64 b) ((m : Rat) * pw e) = q := by rw [h2]; exact h.e
  have hw : narrow b = FloatKind.f32.format.nearest (sg .f64 b) m e := by
    unfold narrow FloatKind.encode FloatKind.decode
    rw [h.nan, h1]
    rfl
  rw [hw]
  exact Rnd.of hq
theorem ovf_false {b : Nat} (h : Ex .f64 b q) (h2 : fin .f32 (narrow b) = true) : ovf b = false := by
  obtain ⟨m, e, h1, _⟩ := read_fin2 h.f
  have hw : narrow b = FloatKind.f32.encode (.number (sg .f64 b) m e) := by
    unfold narrow FloatKind.decode
    rw [h.nan, h1]
    rfl
  unfold ovf FloatKind.decode
  rw [h1]
  simp only []
  rw [← hw]
  obtain ⟨m', e', g1, _⟩ := read_fin2 h2
  rw [g1]
  rfl
theorem narrow_ex {b : Nat} (h : Ex .f64 b q) (hr : Rep .f32 q) : Ex .f32 (narrow b) q ∧ ovf b = false := by
  have := (narrow_rnd h).ex hr
  exact ⟨this, ovf_false h this.f⟩

end Fl
end Go.Ev

/- Floats as rational numbers: the order of words, the next word, and between two words. -/
set_option linter.unusedVariables false
set_option linter.unusedSimpArgs false
namespace Go.Ev
open Ieee

namespace Fl
variable {k : FloatKind} {x y : Nat}

def pos (k : FloatKind) (x : Nat) : Int := bif sg k x then -(rung k x : Int) else (rung k x : Int)
theorem ev_lt_iff : ev k x < ev k y ↔ pos k x < pos k y := by
  have nx := mg_nonneg k.format (rung k x)
  have ny := mg_nonneg k.format (rung k y)
  unfold ev pos
  cases s1 : sg k x <;> cases s2 : sg k y <;> simp only [sgd, cond_true, cond_false]
  · constructor
    · intro h; have := lt_of_mg _ h; omega
    · intro h; exact mg_lt _ (by omega)
  · constructor
    · intro h; grind
    · intro h; omega
  · constructor
    · intro h
      by_cases h1 : rung k x = 0
      · by_cases h2 : rung k y = 0
        · rw [h1, h2, mg_zero] at h; grind
        · omega
      · omega
    · intro h
      have z := mg_zero k.format
      by_cases h1 : rung k x = 0
      · have := mg_lt k.format (show 0 < rung k y by omega)
        grind
      · have := mg_lt k.format (show 0 < rung k x by omega)
        grind
  · constructor
    · intro h
      have := lt_of_mg k.format (show mg k.format (rung k y) < mg k.format (rung k x) by grind)
      omega
    · intro h
      have := mg_lt k.format (show rung k y < rung k x by omega)
      grind
theorem ev_le_iff : ev k x ≤ ev k y ↔ pos k x ≤ pos k y := by
  have h2 := @ev_lt_iff k y x
  rw [← Rat.not_lt, h2]
  omega
section
variable (hx : nan k x = false) (hy : nan k y = false)
include hx hy
end

theorem fin_pos (hx : nan k x = false) : fin k x = true ↔ -(infOf k : Int) < pos k x ∧ pos k x < infOf k := by
  have := nan_false.1 hx
  rw [fin_iff]
  unfold pos
  cases sg k x <;> simp only [cond_true, cond_false] <;> omega

theorem x_cases (hl : x < 2 * signOf k) : (sg k x = false ∧ x = rung k x) ∨ (sg k x = true ∧ x = signOf k + rung k x) := by
  have := word_of hl
  unfold Format.word at this
  rw [sign_eq] at this
  cases h : sg k x <;> simp only [h, Bool.false_eq_true, if_false, if_true] at this
  · exact .inl ⟨rfl, this.symm⟩
  · exact .inr ⟨rfl, this.symm⟩
theorem Near.tie_val {f : Format} {a : Rat} {r t : Nat} (h : Near f a r) (ht : t < f.infRung) (e : a = (mg f t + mg f (t + 1)) / 2) : r = t + t % 2 := h.tie t ht (by grind)
theorem Rnd.tie {b t : Nat} {s : Bool} (h : Rnd k (sgd s ((mg k.format t + mg k.format (t + 1)) / 2)) b) (ht : t < infOf k) : ev k b = sgd s (mg k.format (t + t % 2)) := by
  obtain ⟨s', r, rfl, h1, h2⟩ := h
  have hi := h2.inf
  rw [inf_eq] at hi
  have n1 := mg_nonneg k.format t
  have n2 := mg_lt k.format (show t < t + 1 by omega)
  have hs : s' = s := by
    cases s <;> cases s' <;> first | rfl | (exfalso; simp only [sgd, cond_true, cond_false] at h1; grind)
  subst hs
  rw [sgd_sgd] at h2
  have := h2.tie_val (by rw [inf_eq]; exact ht) rfl
  rw [ev_word hi, this]
end Fl
end Go.Ev

/- Floats as rational numbers: the middle of two neighbours. -/
set_option linter.unusedVariables false
set_option linter.unusedSimpArgs false
namespace Go.Ev
open Ieee

namespace Fl
variable {k : FloatKind} {x y : Nat}

end Fl
end Go.Ev

/- Floats as rational numbers: square roots. -/
set_option linter.unusedVariables false
set_option linter.unusedSimpArgs false
namespace Go.Ev
open Ieee

theorem sq_le {a b : Rat} (ha : 0 ≤ a) (h : a ≤ b) : a * a ≤ b * b := by
  have h1 := Rat.mul_le_mul_of_nonneg_left h ha
  have h2 := Rat.mul_le_mul_of_nonneg_right h (show 0 ≤ b by grind)
  grind
theorem sq_lt {a b : Rat} (ha : 0 ≤ a) (h : a < b) : a * a < b * b := by
  have h1 := Rat.mul_le_mul_of_nonneg_left (Rat.le_of_lt h) ha
  have h2 := Rat.mul_lt_mul_of_pos_right h (show 0 < b by grind)
  grind
theorem le_of_sq {a b : Rat} (hb : 0 ≤ b) (h : a * a ≤ b * b) : a ≤ b := by
  refine Rat.not_lt.1 fun c => ?_
  have := sq_lt hb c
  grind
theorem lt_of_sq {a b : Rat} (hb : 0 ≤ b) (h : a * a < b * b) : a < b := by
  refine Rat.not_le.1 fun c => ?_
  have := sq_le hb c
  grind

namespace Fl
structure SNear (f : Format) (q : Rat) (r : Nat) : Prop where
  inf : r ≤ f.infRung
  lo : ∀ t, t ≤ f.infRung → mg f t * mg f t ≤ q → t ≤ r
  hi : ∀ t, q ≤ mg f t * mg f t → r ≤ t
  lt : ∀ t, t < f.infRung → 4 * q < (mg f t + mg f (t + 1)) * (mg f t + mg f (t + 1)) → r ≤ t
  gt : ∀ t, t < f.infRung → (mg f t + mg f (t + 1)) * (mg f t + mg f (t + 1)) < 4 * q → t + 1 ≤ r
  tie : ∀ t, t < f.infRung → 4 * q = (mg f t + mg f (t + 1)) * (mg f t + mg f (t + 1)) → r = t + t % 2
theorem SNear.of {f : Format} {x q : Rat} {r : Nat} (h : Near f x r) (hx : 0 ≤ x) (e : q = x * x) : SNear f q r := by
  have nn := mg_nonneg f
  subst e
  refine ⟨h.inf, fun t ht c => h.lo t ht (le_of_sq hx c), fun t c => h.hi t (le_of_sq (nn t) c), fun t ht c => h.lt t ht ?_, fun t ht c => h.gt t ht ?_, fun t ht c => h.tie t ht ?_⟩
  · have a1 := nn t
    have a2 := nn (t + 1)
    exact lt_of_sq (by grind) (by grind)
  · exact lt_of_sq (by grind) (by grind)
  · have a1 := nn t
    have a2 := nn (t + 1)
    exact Rat.le_antisymm (le_of_sq (by grind) (by grind)) (le_of_sq (by grind) (by grind))
theorem SNear.between {f : Format} {x q lo hi : Rat} {r : Nat} (h : Near f x r) (h0 : 0 ≤ lo) (h1 : ∀ t, mg f t ≤ lo ∨ hi ≤ mg f t) (h2 : ∀ t, mg f t + mg f (t + 1) ≤ 2 * lo ∨ 2 * hi ≤ mg f t + mg f (t + 1))
    (x1 : lo < x) (x2 : x < hi) (a1 : lo * lo < q) (a2 : q < hi * hi) : SNear f q r := by
  have nn := mg_nonneg f
  have hhi : 0 ≤ hi := by grind
  refine ⟨h.inf, fun t ht e => h.lo t ht ?_, fun t e => h.hi t ?_, fun t ht e => h.lt t ht ?_, fun t ht e => h.gt t ht ?_, fun t ht e => ?_⟩
  · rcases h1 t with g | g
    · grind
    · have := sq_le hhi g; grind
  · rcases h1 t with g | g
    · have := sq_le (nn t) g; grind
    · grind
  · have b1 := nn t
    have b2 := nn (t + 1)
    rcases h2 t with g | g
    · have := sq_le (by grind) g; grind
    · grind
  · rcases h2 t with g | g
    · grind
    · have := sq_le (show 0 ≤ 2 * hi by grind) g; grind
  · have b1 := nn t
    have b2 := nn (t + 1)
    rcases h2 t with g | g
    · have := sq_le (by grind) g; grind
    · have := sq_le (show 0 ≤ 2 * hi by grind) g; grind
theorem SNear.mono {f : Format} {a b : Rat} {r s : Nat} (h1 : SNear f a r) (h2 : SNear f b s) (h : a ≤ b) : r ≤ s := by
  have nn := mg_nonneg f
  refine Nat.le_of_not_lt fun hlt => ?_
  have i1 := h1.inf
  have x1 : b < mg f (s + 1) * mg f (s + 1) := Rat.not_le.1 fun hc => by have := h2.lo _ (by omega) hc; omega
  have x2 : mg f (r - 1) * mg f (r - 1) < a := Rat.not_le.1 fun hc => by have := h1.hi _ hc; omega
  have x3 : mg f (r - 1) < mg f (s + 1) := lt_of_sq (nn _) (by grind)
  have x4 := lt_of_mg f x3
  have e : r = s + 1 := by omega
  subst e
  have y1 : ¬ 4 * a < (mg f s + mg f (s + 1)) * (mg f s + mg f (s + 1)) := fun hc => by have := h1.lt s (by omega) hc; omega
  have y2 : ¬ (mg f s + mg f (s + 1)) * (mg f s + mg f (s + 1)) < 4 * b := fun hc => by have := h2.gt s (by omega) hc; omega
  have z1 := h1.tie s (by omega) (by grind)
  have z2 := h2.tie s (by omega) (by grind)
  omega

theorem rootFrom_spec (n : Nat) : ∀ (todo root : Nat), root * root ≤ n → n < (root + 2 ^ todo) * (root + 2 ^ todo) →
    Datum.rootFrom n todo root * Datum.rootFrom n todo root ≤ n ∧ n < (Datum.rootFrom n todo root + 1) * (Datum.rootFrom n todo root + 1)
  | 0, root, h1, h2 => ⟨h1, h2⟩
  | todo + 1, root, h1, h2 => by
    unfold Datum.rootFrom
    simp only [Nat.shiftLeft_eq, Nat.one_mul]
    have e : 2 ^ (todo + 1) = 2 ^ todo + 2 ^ todo := by rw [Nat.pow_succ]; omega
    rw [e, ← Nat.add_assoc] at h2
    by_cases h : (root + 2 ^ todo) * (root + 2 ^ todo) ≤ n
    · rw [if_pos h]; exact rootFrom_spec n todo _ h h2
    · rw [if_neg h]; exact rootFrom_spec n todo _ h1 (by omega)
theorem root_spec (n : Nat) : Datum.rootFrom n (n.log2 / 2 + 1) 0 * Datum.rootFrom n (n.log2 / 2 + 1) 0 ≤ n ∧ n < (Datum.rootFrom n (n.log2 / 2 + 1) 0 + 1) * (Datum.rootFrom n (n.log2 / 2 + 1) 0 + 1) := by
  refine rootFrom_spec n _ 0 (Nat.zero_le _) ?_
  rw [Nat.zero_add, ← Nat.pow_add]
  have h1 : n < 2 ^ (n.log2 + 1) := Nat.lt_log2_self
  exact Nat.lt_of_lt_of_le h1 (Nat.pow_le_pow_right (by omega) (by omega))

theorem pw_sq (e : Int) : pw e * pw e = pw (2 * e) := by rw [← pw_add]; congr 1; omega

theorem fsqrt_pos {k : FloatKind} {x : Nat} (hx : fin k x = true) (h0 : 0 < ev k x) : ∃ r, fsqrt k x = k.format.word false r ∧ SNear k.format (ev k x) r := by
  obtain ⟨m, i, h1, h2⟩ := read_fin hx
  have hs : sg k x = false := by
    cases e : sg k x with
    | false => rfl
    | true =>
      unfold ev at h0
      rw [e] at h0
      have := mg_nonneg k.format (rung k x)
      simp only [sgd, cond_true] at h0
      grind
  have hev : ev k x = (m : Rat) * pw i := by
    unfold ev
    rw [hs, h2]; rfl
  have hm : m ≠ 0 := by
    intro e
    subst e
    rw [hev] at h0
    have : ((0 : Nat) : Rat) * pw i = 0 := Rat.zero_mul _
    grind
  rw [hs] at h1
  unfold fsqrt Format.sqrt
  rw [h1]
  simp only [Datum.root, if_neg hm, Bool.false_eq_true, if_false, Option.map_some, orNan, Format.write]
  generalize hd : k.format.fractionBits + 2 = d
  generalize hmore : 2 * d - m.log2 + ((i - ((2 * d - m.log2 : Nat) : Int)) % 2).toNat = more
  have hev2 : (i - more) % 2 = 0 := by omega
  obtain ⟨j, hj⟩ : ∃ j : Int, i - more = 2 * j := ⟨(i - more) / 2, by omega⟩
  have hj2 : (i - (more : Int)) / 2 = j := by omega
  rw [hj2, Nat.shiftLeft_eq]
  obtain ⟨w1, w2⟩ := root_spec (m * 2 ^ more)
  have hlog : 2 ^ (2 * d) ≤ m * 2 ^ more := by
    have a1 : 2 ^ m.log2 ≤ m := Nat.log2_self_le hm
    have a2 : 2 ^ (2 * d) ≤ 2 ^ (m.log2 + more) := Nat.pow_le_pow_right (by omega) (by omega)
    rw [Nat.pow_add] at a2
    exact Nat.le_trans a2 (Nat.mul_le_mul_right _ a1)
  -- the number in units
  have hq : ev k x = ((m * 2 ^ more : Nat) : Rat) * pw (2 * j) := by
    rw [hev, Rat.natCast_mul, ← pw_nat, Rat.mul_assoc, ← pw_add]
    congr 2
    omega
  generalize hnn : m * 2 ^ more = n at *
  generalize Datum.rootFrom n (n.log2 / 2 + 1) 0 = w at *
  have hwd : 2 ^ d ≤ w := by
    refine Nat.le_of_not_lt fun c => ?_
    have : (w + 1) * (w + 1) ≤ 2 ^ d * 2 ^ d := Nat.mul_le_mul c c
    rw [← Nat.pow_add, show d + d = 2 * d by omega] at this
    omega
  refine ⟨_, nearest_eq _ _ _ _, ?_⟩
  have hu := pw_pos (j - 1)
  have hsq : pw (2 * j) = (2 * pw (j - 1)) * (2 * pw (j - 1)) := by
    rw [← pw_succ, pw_sq]; congr 1; omega
  have c2 : ∀ a : Nat, ((2 * a : Nat) : Rat) = 2 * (a : Rat) := fun a => by rw [Rat.natCast_mul]; rfl
  have hw0 : (0 : Rat) ≤ (w : Rat) := Rat.natCast_nonneg
  have hwu := Rat.mul_nonneg hw0 (Rat.le_of_lt hu)
  by_cases hr : w * w = n
  · have hb : (w * w != n).toNat = 0 := by rw [hr, bne_self_eq_false]; rfl
    rw [hb, Nat.add_zero]
    refine SNear.of (rg_near (even_k k) (2 * w) (j - 1)) ?_ ?_
    · exact Rat.mul_nonneg Rat.natCast_nonneg (Rat.le_of_lt hu)
    · rw [hq, hsq, ← hr, Rat.natCast_mul, c2]
      grind
  · have hb : (w * w != n).toNat = 1 := by rw [bne_iff_ne.2 hr]; rfl
    rw [hb]
    have hS : 2 ^ (k.format.fractionBits + 2) ≤ 2 * w + 1 := by rw [hd]; omega
    obtain ⟨lo, hi, g0, g1, g2, t1, t2⟩ := sticky_gap (f := k.format) (S := 2 * w + 1) (g := j - 1) hS (by omega)
    have cS : ((2 * w + 1 : Nat) : Rat) = 2 * (w : Rat) + 1 := by rw [Rat.natCast_add, c2]; rfl
    rw [cS] at g1 g2
    have hlt : w * w < n := Nat.lt_of_le_of_ne w1 hr
    have n1 : (w : Rat) * (w : Rat) < (n : Rat) := by rw [← Rat.natCast_mul]; exact Rat.natCast_lt_natCast.2 hlt
    have n2 : (n : Rat) < ((w : Rat) + 1) * ((w : Rat) + 1) := by
      have := Rat.natCast_lt_natCast.2 w2
      rw [Rat.natCast_mul, Rat.natCast_add] at this
      exact this
    have p2 : 0 < pw (2 * j) := pw_pos _
    refine SNear.between (x := ((2 * w + 1 : Nat) : Rat) * pw (j - 1)) (rg_near (even_k k) (2 * w + 1) (j - 1)) g0 t1 t2 ?_ ?_ ?_ ?_
    · rw [cS]; grind
    · rw [cS]; grind
    · have a1 := sq_le g0 (show lo ≤ 2 * ((w : Rat) * pw (j - 1)) by grind)
      have a2 := Rat.mul_lt_mul_of_pos_right n1 p2
      rw [← hq, hsq] at a2
      grind
    · have a1 := sq_le (show (0 : Rat) ≤ 2 * (((w : Rat) + 1) * pw (j - 1)) by grind) (show 2 * (((w : Rat) + 1) * pw (j - 1)) ≤ hi by grind)
      have a2 := Rat.mul_lt_mul_of_pos_right n2 p2
      rw [← hq, hsq] at a2
      grind

theorem fsqrt_neg {k : FloatKind} {x : Nat} (hx : fin k x = true) (h0 : ev k x < 0) : fsqrt k x = qnan k := by
  obtain ⟨m, i, h1, h2⟩ := read_fin hx
  have nn := mg_nonneg k.format (rung k x)
  have hs : sg k x = true := by
    cases e : sg k x with
    | true => rfl
    | false =>
      unfold ev at h0
      rw [e] at h0
      simp only [sgd, cond_false] at h0
      grind
  have hm : m ≠ 0 := by
    intro e
    subst e
    have : ((0 : Nat) : Rat) * pw i = 0 := Rat.zero_mul _
    unfold ev at h0
    rw [hs, ← h2, this] at h0
    exact absurd h0 (by decide)
  rw [hs] at h1
  unfold fsqrt Format.sqrt
  rw [h1]
  simp only [Datum.root, if_neg hm, if_true, Option.map_none, orNan]
theorem fsqrt_zero {k : FloatKind} {x : Nat} (hx : fin k x = true) (h0 : ev k x = 0) : fsqrt k x = k.format.word (sg k x) 0 := by
  obtain ⟨m, i, h1, h2⟩ := read_fin hx
  have nn := mg_nonneg k.format (rung k x)
  have hm : m = 0 := by
    have : (m : Rat) * pw i = 0 := by
      rw [h2]
      unfold ev at h0
      cases e : sg k x <;> rw [e] at h0 <;> simp only [sgd, cond_true, cond_false] at h0 <;> grind
    rcases Rat.mul_eq_zero.1 this with h | h
    · exact_mod_cast h
    · have := pw_pos i; grind
  subst hm
  unfold fsqrt Format.sqrt
  rw [h1]
  simp only [Datum.root, if_true, Option.map_some, orNan, Format.write, Format.nearest]
def rootN (x : Nat) : Nat := narrow (fsqrt .f64 (widen x))
theorem pw64_rung : ∃ t, t < infOf .f64 ∧ mg FloatKind.f64.format t = pw 64 := by
  obtain ⟨t, ht⟩ := rep_rung FloatKind.f64.format 1138 1 (by decide)
  have e : ((1 : Nat) : Rat) * pw (FloatKind.f64.format.leastPlace + (1138 : Nat)) = pw 64 := Rat.one_mul _
  rw [e] at ht
  refine ⟨t, lt_of_mg FloatKind.f64.format ?_, ht⟩
  rw [ht, mg_inf]
  show pw 64 < pw 1024
  have h1 := pw_succ 64
  have h2 := pw_pos 64
  have h3 : pw (64 + 1) ≤ pw 1024 := pw_le (by omega)
  grind
theorem root_fin {x : Nat} {q : Rat} (h : Ex .f32 x q) (h0 : 0 < q) : ∃ r, Ex .f64 (fsqrt .f64 (widen x)) (mg FloatKind.f64.format r) ∧ fsqrt .f64 (widen x) = FloatKind.f64.format.word false r ∧ SNear FloatKind.f64.format q r ∧ Rnd .f32 (mg FloatKind.f64.format r) (rootN x) ∧ ovf (fsqrt .f64 (widen x)) = false ∧ fin .f32 (rootN x) = true := by
  have W := widen_ex h
  obtain ⟨r, h1, h2⟩ := fsqrt_pos W.f (by rw [W.e]; exact h0)
  rw [W.e] at h2
  obtain ⟨t, t1, t2⟩ := pw64_rung
  have hq : q < pw 128 := by
    have a := mg_lt FloatKind.f32.format (fin_iff.1 h.f)
    have : mg FloatKind.f32.format (infOf .f32) = pw 128 := mg_inf .f32
    rw [this] at a
    have e := h.e
    unfold ev at e
    have nn := mg_nonneg FloatKind.f32.format (rung .f32 x)
    cases s : sg .f32 x <;> rw [s] at e <;> simp only [sgd, cond_true, cond_false] at e <;> grind
  have hr : r ≤ t := h2.hi t (by rw [t2, pw_sq]; show q ≤ pw 128; grind)
  have w := word_sg (k := .f64) (s := false) (r := r) (by omega)
  have E : Ex .f64 (fsqrt .f64 (widen x)) (mg FloatKind.f64.format r) := by
    rw [h1]
    refine ⟨fin_iff.2 (by rw [w.2.1]; omega), w.2.2, ?_⟩
    rw [ev_word (by omega)]; rfl
  have N := narrow_rnd E
  have hf : fin .f32 (rootN x) = true := by
    have r64 : Rep .f32 (pw 64) := by
      have := rep_nat (k := .f32) (n := 1) (e := 64) (by decide) (by decide) (by
        rw [mg_inf]
        show ((1 : Nat) : Rat) * pw 64 < pw 128
        have h1 := pw_succ 64
        have h2 := pw_pos 64
        have h3 : pw (64 + 1) ≤ pw 128 := pw_le (by omega)
        have : ((1 : Nat) : Rat) = 1 := rfl
        grind)
      have e : ((1 : Nat) : Rat) * pw 64 = pw 64 := Rat.one_mul _
      rwa [e] at this
    obtain ⟨w64, f1, f2, f3⟩ := r64
    have le : ev .f32 (rootN x) ≤ ev .f32 w64 := N.le (fin_nan f1) f2 (by rw [f3, ← t2]; exact mg_le _ hr)
    have ge : ev .f32 0 ≤ ev .f32 (rootN x) := N.ge (by decide) (by decide) (by rw [(ev_zero (by decide)).2 (.inl rfl)]; exact mg_nonneg _ _)
    have p1 := ev_le_iff.1 le
    have p2 := ev_le_iff.1 ge
    have p3 := (fin_pos (fin_nan f1)).1 f1
    have p4 : pos .f32 0 = 0 := by decide +kernel
    exact (fin_pos N.nan).2 (by show _ < pos .f32 (rootN x) ∧ pos .f32 (rootN x) < _; omega)
  exact ⟨r, E, h1, h2, N, ovf_false E hf, hf⟩
theorem ovf_qnan : ovf (qnan .f64) = false := by decide +kernel
theorem root_ovf {x : Nat} (hl : x < 2 * signOf .f32) (hc : canon .f32 x = x) : ovf (fsqrt .f64 (widen x)) = false := by
  cases hn : nan .f32 x with
  | true =>
    rw [canon_nan hn] at hc
    subst hc
    decide +kernel
  | false =>
    by_cases hf : fin .f32 x = true
    · have X : Ex .f32 x (ev .f32 x) := ⟨hf, hl, rfl⟩
      have W := widen_ex X
      by_cases h1 : 0 < ev .f32 x
      · exact (root_fin X h1).choose_spec.2.2.2.2.1
      · by_cases h2 : ev .f32 x < 0
        · rw [fsqrt_neg W.f (by rw [W.e]; exact h2)]; exact ovf_qnan
        · have h3 : ev .f32 x = 0 := by grind
          rw [fsqrt_zero W.f (by rw [W.e]; exact h3)]
          cases sg .f64 (widen x) <;> decide +kernel
    · have hr := nan_false.1 hn
      have hri : rung .f32 x = infOf .f32 := by
        have : ¬ rung .f32 x < infOf .f32 := fun c => hf (fin_iff.2 c)
        omega
      rcases x_cases hl with ⟨_, b⟩ | ⟨_, b⟩
      · rw [hri] at b; subst b; decide +kernel
      · rw [hri] at b; subst b; decide +kernel

theorem root_ex {x : Nat} {q : Rat} (h : Ex .f32 x q) (h0 : 0 ≤ q) : fin .f32 (rootN x) = true ∧ rootN x < 2 * signOf .f32 ∧ 0 ≤ ev .f32 (rootN x) := by
  by_cases h1 : 0 < q
  · obtain ⟨r, _, _, _, N, _, f⟩ := root_fin h h1
    refine ⟨f, N.lt2, ?_⟩
    have := N.ge (w := 0) (by decide) (by decide) (by rw [(ev_zero (by decide)).2 (.inl rfl)]; exact mg_nonneg _ _)
    rwa [(ev_zero (by decide)).2 (.inl rfl)] at this
  · have h2 : ev .f32 x = 0 := by rw [h.e]; grind
    have z : ∀ b, b = 0 ∨ b = 2147483648 → fin .f32 (rootN b) = true ∧ rootN b < 2 * signOf .f32 ∧ (rootN b = 0 ∨ rootN b = 2147483648) := by
      rintro b (rfl | rfl) <;> decide +kernel
    obtain ⟨a1, a2, a3⟩ := z x ((ev_zero h.l).1 h2)
    refine ⟨a1, a2, ?_⟩
    rw [(ev_zero a2).2 a3]
    grind
theorem root_mono {x y : Nat} {p q : Rat} (hx : Ex .f32 x p) (hy : Ex .f32 y q) (h0 : 0 ≤ p) (h : p ≤ q) : ev .f32 (rootN x) ≤ ev .f32 (rootN y) := by
  by_cases h1 : 0 < p
  · obtain ⟨r, _, _, n1, N1, _, _⟩ := root_fin hx h1
    obtain ⟨s, _, _, n2, N2, _, _⟩ := root_fin hy (by grind)
    exact N1.mono N2 (mg_le _ (n1.mono n2 h))
  · have h2 : ev .f32 x = 0 := by rw [hx.e]; grind
    have z : ∀ b, b = 0 ∨ b = 2147483648 → rootN b < 2 * signOf .f32 ∧ (rootN b = 0 ∨ rootN b = 2147483648) := by
      rintro b (rfl | rfl) <;> decide +kernel
    obtain ⟨a2, a3⟩ := z x ((ev_zero hx.l).1 h2)
    rw [(ev_zero a2).2 a3]
    exact (root_ex hy (by grind)).2.2

end Fl
end Go.Ev

/- Floats as rational numbers: numbers of few binary digits, which are exact. -/
set_option linter.unusedVariables false
set_option linter.unusedSimpArgs false
namespace Go.Ev
open Ieee

namespace Fl
def Gr (s b : Nat) (q : Rat) : Prop := ∃ n : Int, q * ((2 ^ s : Nat) : Rat) = n ∧ n.natAbs ≤ b
theorem Gr.le {s b c : Nat} {q : Rat} (h : Gr s b q) (hb : b ≤ c) : Gr s c q := by
  obtain ⟨n, h1, h2⟩ := h
  exact ⟨n, h1, by omega⟩
theorem Gr.up {s b : Nat} {q : Rat} (h : Gr s b q) (t : Nat) : Gr (s + t) (b * 2 ^ t) q := by
  obtain ⟨n, h1, h2⟩ := h
  refine ⟨n * ((2 ^ t : Nat) : Int), ?_, ?_⟩
  · rw [Nat.pow_add, Rat.natCast_mul, Rat.intCast_mul, ← h1, Rat.mul_assoc]; rfl
  · rw [Int.natAbs_mul, Int.natAbs_natCast]
    exact Nat.mul_le_mul_right _ h2
theorem Gr.add {s b c : Nat} {p q : Rat} (h : Gr s b p) (h' : Gr s c q) : Gr s (b + c) (p + q) := by
  obtain ⟨n, h1, h2⟩ := h
  obtain ⟨m, h3, h4⟩ := h'
  exact ⟨n + m, by rw [Rat.add_mul, h1, h3, Rat.intCast_add], by omega⟩
theorem Gr.sub {s b c : Nat} {p q : Rat} (h : Gr s b p) (h' : Gr s c q) : Gr s (b + c) (p - q) := by
  obtain ⟨n, h1, h2⟩ := h
  obtain ⟨m, h3, h4⟩ := h'
  exact ⟨n - m, by rw [Rat.intCast_sub, ← h1, ← h3]; grind, by omega⟩
theorem Gr.neg {s b : Nat} {p : Rat} (h : Gr s b p) : Gr s b (-p) := by
  obtain ⟨n, h1, h2⟩ := h
  exact ⟨-n, by rw [Rat.intCast_neg, ← h1, Rat.neg_mul], by omega⟩
theorem Gr.mul {s t b c : Nat} {p q : Rat} (h : Gr s b p) (h' : Gr t c q) : Gr (s + t) (b * c) (p * q) := by
  obtain ⟨n, h1, h2⟩ := h
  obtain ⟨m, h3, h4⟩ := h'
  refine ⟨n * m, ?_, ?_⟩
  · rw [Nat.pow_add, Rat.natCast_mul, Rat.intCast_mul, ← h1, ← h3]; grind
  · rw [Int.natAbs_mul]
    exact Nat.mul_le_mul h2 h4
theorem Gr.int (n : Int) {b : Nat} (h : n.natAbs ≤ b) : Gr 0 b (n : Rat) := ⟨n, by rw [Nat.pow_zero]; exact Rat.mul_one _, h⟩
theorem Gr.zero (s b : Nat) : Gr s b 0 := ⟨0, by rw [Rat.zero_mul]; rfl, by omega⟩
theorem Gr.rep32 {s b : Nat} {q : Rat} (h : Gr s b q) (hb : b ≤ 16777216) (hs : s ≤ 149) : Rep .f32 q := by
  obtain ⟨n, h1, h2⟩ := h
  exact Fl.rep32 n s h1 (by omega) hs
structure Q (s b : Nat) (x : Nat) (q : Rat) : Prop where
  x : Ex .f32 x q
  g : Gr s b q
section
variable {s t b c x y : Nat} {p q : Rat}
theorem Q.le (h : Q s b x q) (hb : b ≤ c) : Q s c x q := ⟨h.x, h.g.le hb⟩
theorem Q.up (h : Q s b x q) (t : Nat) : Q (s + t) (b * 2 ^ t) x q := ⟨h.x, h.g.up t⟩
theorem Q.as (h : Q s b x p) (e : p = q) : Q s b x q := e ▸ h
theorem Q.add (h : Q s b x p) (h' : Q s c y q) (hb : b + c ≤ 16777216) (hs : s ≤ 149) : Q s (b + c) (fadd .f32 x y) (p + q) :=
  ⟨h.x.add h'.x ((h.g.add h'.g).rep32 hb hs), h.g.add h'.g⟩
theorem Q.sub (h : Q s b x p) (h' : Q s c y q) (hb : b + c ≤ 16777216) (hs : s ≤ 149) : Q s (b + c) (fsub .f32 x y) (p - q) :=
  ⟨h.x.sub h'.x ((h.g.sub h'.g).rep32 hb hs), h.g.sub h'.g⟩
theorem Q.mul (h : Q s b x p) (h' : Q t c y q) (hb : b * c ≤ 16777216) (hs : s + t ≤ 149) : Q (s + t) (b * c) (fmul .f32 x y) (p * q) :=
  ⟨h.x.mul h'.x ((h.g.mul h'.g).rep32 hb hs), h.g.mul h'.g⟩
theorem Q.neg (h : Q s b x p) : Q s b (fneg .f32 x) (-p) := ⟨h.x.neg, h.g.neg⟩
end

theorem ev_lit {k : FloatKind} {x : Nat} (s : Bool) (p j : Nat) (hj : j ≤ 2 * k.format.binade) (h : p = 0 ∨ k.format.binade ≤ j) (hx : x = k.format.word s (p * k.format.binade + j)) (hr : p * k.format.binade + j ≤ infOf k) :
    ev k x = sgd s ((j : Rat) * pw (k.format.leastPlace + p)) := by
  rw [hx, ev_word hr, mg_at k.format p j hj h]
theorem q_zero : Q 0 0 0 0 := ⟨⟨by decide, by decide, (ev_zero (by decide)).2 (.inl rfl)⟩, Gr.zero 0 0⟩
theorem nearest_lit {x : Nat} (n : Int) (h : n.natAbs ≤ 16777216) (e : FloatKind.f32.nearest n = x) : Q 0 n.natAbs x (n : Rat) := by
  subst e
  exact ⟨ex_int32 h, Gr.int n (Nat.le_refl _)⟩
theorem q_one : Q 0 1 1065353216 1 := (nearest_lit 1 (by decide) (by decide +kernel)).as rfl
end Fl
end Go.Ev

/- Floats as rational numbers: sums of lists. -/
set_option linter.unusedVariables false
set_option linter.unusedSimpArgs false
namespace Go.Ev
open Ieee

namespace Fl
def rsum : List Rat → Rat
  | [] => 0
  | q :: qs => q + rsum qs
inductive QL (s b : Nat) : List Nat → List Rat → Prop
  | nil : QL s b [] []
  | cons {x : Nat} {q : Rat} {xs : List Nat} {qs : List Rat} : Q s b x q → QL s b xs qs → QL s b (x :: xs) (q :: qs)
theorem QL.length {s b : Nat} {xs : List Nat} {qs : List Rat} (h : QL s b xs qs) : xs.length = qs.length := by
  induction h with
  | nil => rfl
  | cons _ _ ih => simp [ih]
theorem QL.take {s b : Nat} {xs : List Nat} {qs : List Rat} (h : QL s b xs qs) (n : Nat) : QL s b (xs.take n) (qs.take n) := by
  induction h generalizing n with
  | nil => simp; exact .nil
  | cons h1 _ ih =>
    cases n with
    | zero => exact .nil
    | succ n => exact .cons h1 (ih n)
theorem QL.drop {s b : Nat} {xs : List Nat} {qs : List Rat} (h : QL s b xs qs) (n : Nat) : QL s b (xs.drop n) (qs.drop n) := by
  induction h generalizing n with
  | nil => simp; exact .nil
  | cons h1 h2 ih =>
    cases n with
    | zero => exact .cons h1 h2
    | succ n => exact ih n
theorem QL.snoc {s b : Nat} {xs : List Nat} {qs : List Rat} {x : Nat} {q : Rat} (h : QL s b xs qs) (h' : Q s b x q) : QL s b (xs ++ [x]) (qs ++ [q]) := by
  induction h with
  | nil => exact .cons h' .nil
  | cons h1 _ ih => exact .cons h1 ih

def fsumL (xs : List Nat) : Nat := xs.foldl (fun a x => fadd .f32 a x) 0
theorem QL.foldl {s b : Nat} {xs : List Nat} {qs : List Rat} (h : QL s b xs qs) : ∀ {c a : Nat} {p : Rat}, Q s c a p → c + b * xs.length ≤ 16777216 → s ≤ 149 → Q s (c + b * xs.length) (xs.foldl (fun a x => fadd .f32 a x) a) (p + rsum qs) := by
  induction h with
  | nil =>
    intro c a p ha _ _
    exact (ha.le (by omega)).as (Rat.add_zero p).symm
  | @cons x q xs qs h1 _ ih =>
    intro c a p ha hb hs
    have e : b * (x :: xs).length = b + b * xs.length := by rw [List.length_cons, Nat.mul_add]; omega
    rw [e] at hb ⊢
    have := ih (ha.add h1 (by omega) hs) (by omega) hs
    refine (this.le (by omega)).as ?_
    simp only [rsum]
    grind
theorem QL.sum {b : Nat} {xs : List Nat} {qs : List Rat} (h : QL 0 b xs qs) (hb : b * xs.length ≤ 16777216) : Q 0 (b * xs.length) (fsumL xs) (rsum qs) :=
  ((h.foldl (q_zero) (by omega) (by omega)).le (by omega)).as (Rat.zero_add _)

end Fl
end Go.Ev

/- Functions of 64-bit floats that Go's library leaves without a body: their bits, and wholes. -/
set_option linter.unusedVariables false
set_option linter.unusedSimpArgs false
namespace Go.Ev

def sF64bits : Sm := fun args hs K =>
  match args with
  | [.float .f64 x] => cond (nan .f64 x) (K .undef hs) (K (.int .u64 x) hs)
  | _ => False

theorem ok_F64bits {P : Program} {k : FuncId} {fn : Func} (hf : P.funcs[k]? = some fn) (hname : (fn.name == "runtime.NumGoroutine") = false)
    (hb : fn.body.isNone = true) (hn : Extern.findNext fn = none) (he : Extern.find fn = some Extern.MathFloatBits.float64bits) : FnOk P k sF64bits := by
  refine fnOk_ext hf hname hb hn he ?_
  intro args K h
  unfold sF64bits at h
  split at h
  · rename_i x
    cases hx : nan .f64 x with
    | true =>
      simp only [hx, cond_true] at h
      refine ⟨.undef, h, fun K' h' => by simp only [sF64bits, hx, cond_true]; exact h', ?_⟩
      intro w M cargs hv
      cases hv with
      | cons a b =>
        cases b
        cases a with
        | float _ _ b' h1 h2 => exact ⟨_, w, rfl, Drawn.refl w, .undef _⟩
    | false =>
      simp only [hx, cond_false] at h
      refine ⟨.int .u64 x, h, fun K' h' => by simp only [sF64bits, hx, cond_false]; exact h', ?_⟩
      intro w M cargs hv
      cases hv with
      | cons a b =>
        cases b
        cases a with
        | float _ _ b' h1 h2 =>
          have hb' : nan .f64 b' = false := by rw [h2, nan_canon] at hx; exact hx
          have e : x = b' := by rw [h2, canon_not hb']
          subst e
          refine ⟨.int .u64 x, w, rfl, Drawn.refl w, .int _ _ ?_⟩
          have e1 : IntKind.u64.min = 0 := rfl
          have e2 : IntKind.u64.max = 18446744073709551615 := rfl
          have e3 : 2 * signOf .f64 = 18446744073709551616 := rfl
          omega
  · exact h.elim

def sF64from : Sm := fun args hs K =>
  match args with
  | [.int .u64 n] => K (.float .f64 (canon .f64 n.toNat)) hs
  | _ => False

theorem ok_F64from {P : Program} {k : FuncId} {fn : Func} (hf : P.funcs[k]? = some fn) (hname : (fn.name == "runtime.NumGoroutine") = false)
    (hb : fn.body.isNone = true) (hn : Extern.findNext fn = none) (he : Extern.find fn = some Extern.MathFloatBits.float64frombits) : FnOk P k sF64from := by
  refine fnOk_ext hf hname hb hn he ?_
  intro args K h
  unfold sF64from at h
  split at h
  · rename_i n
    refine ⟨_, h, fun K' h' => h', ?_⟩
    intro w M cargs hv
    cases hv with
    | cons a b =>
      cases b
      cases a with
      | int _ _ hr =>
        have e1 : IntKind.u64.min = 0 := rfl
        have e2 : IntKind.u64.max = 18446744073709551615 := rfl
        have e3 : 2 * signOf .f64 = 18446744073709551616 := rfl
        exact ⟨_, w, rfl, Drawn.refl w, .float _ _ n.toNat (by omega) rfl⟩
  · exact h.elim

def fwhole (way : Ieee.Toward) (x : Nat) : Nat := bif nan .f64 x then qnan .f64 else FloatKind.f64.encode ((FloatKind.f64.decode x).integral way)
def sWhole (way : Ieee.Toward) : Sm := fun args hs K =>
  match args with
  | [.float .f64 x] => cond (nan .f64 x) False (K (.float .f64 (fwhole way x)) hs)
  | _ => False

theorem ok_whole {P : Program} {k : FuncId} {fn : Func} (name : String) (way : Ieee.Toward) (hf : P.funcs[k]? = some fn) (hname : (fn.name == "runtime.NumGoroutine") = false)
    (hb : fn.body.isNone = true) (hn : Extern.findNext fn = none) (he : Extern.find fn = some (Extern.MathFloor.toIntegral name way)) : FnOk P k (sWhole way) := by
  refine fnOk_ext hf hname hb hn he ?_
  intro args K h
  unfold sWhole at h
  split at h
  · rename_i x
    cases hx : nan .f64 x with
    | true => simp only [hx, cond_true] at h
    | false =>
    simp only [hx, cond_false] at h
    refine ⟨_, h, fun K' h' => by simp only [sWhole, hx, cond_false]; exact h', ?_⟩
    intro w M cargs hv
    cases hv with
    | cons a b =>
      cases b
      cases a with
      | float _ _ b' h1 h2 =>
        have hb' : nan .f64 b' = false := by rw [h2, nan_canon] at hx; exact hx
        have e : x = b' := by rw [h2, canon_not hb']
        subst e
        have hd := read_not_nan hx
        have hpl : plainD (((FloatKind.f64.decode x).integral way)) = true := by
          unfold FloatKind.decode
          cases e : FloatKind.f64.format.read x with
          | nan s t => exact absurd e (hd s t)
          | infinity s => rfl
          | number s m p => rfl
        refine ⟨.float .f64 (FloatKind.f64.encode ((FloatKind.f64.decode x).integral way)), w, ?_, Drawn.refl w, ?_⟩
        · have hT : ∀ d, FloatKind.f64.decode x = d → plainD d = true → (Extern.MathFloor.toIntegral name way #[.float .f64 x]) = pure (.float .f64 (FloatKind.f64.encode (d.integral way))) := by
            intro d e hp
            have h0 : (Extern.MathFloor.toIntegral name way #[.float .f64 x]) = (match FloatKind.f64.decode x with
              | .nan s t => (if FloatKind.f64.format.quiet t = t then pure (.float .f64 x) else do
                let kept ← choose (.extern "math.Floor,Ceil,Trunc,RoundToEven.signallingNaN kept" 2)
                pure (.float .f64 (if kept == 1 then x else FloatKind.f64.encode (.nan s (FloatKind.f64.format.quiet t)))))
              | d => pure (.float .f64 (FloatKind.f64.encode (d.integral way)))) := rfl
            rw [h0, e]
            cases d with
            | nan s t => cases hp
            | infinity s => rfl
            | number s m p => rfl
          show (Extern.MathFloor.toIntegral name way #[.float .f64 x]).run P w = _
          rw [hT _ rfl (by
            unfold FloatKind.decode
            cases e : FloatKind.f64.format.read x with
            | nan s t => exact absurd e (hd s t)
            | infinity s => rfl
            | number s m p => rfl)]
          rfl
        · have hn' : nan .f64 (FloatKind.f64.encode ((FloatKind.f64.decode x).integral way)) = false := nan_write hpl
          refine .float _ _ _ ?_ ?_
          · have := FloatKind.f64.format.write_lt ((FloatKind.f64.decode x).integral way)
            rw [← width_eq]
            exact this
          · unfold fwhole
            rw [hx, cond_false, canon_not hn']
  · exact h.elim

end Go.Ev

/- Floats as rational numbers: wholes. -/
set_option linter.unusedVariables false
set_option linter.unusedSimpArgs false
namespace Go.Ev
open Ieee

namespace Fl
theorem div_gap (n d : Nat) : n / 2 ^ min d (n.log2 + 2) = n / 2 ^ d := by
  by_cases h : d ≤ n.log2 + 2
  · rw [Nat.min_eq_left h]
  · rw [Nat.min_eq_right (by omega)]
    have h1 : n < 2 ^ (n.log2 + 1) := Nat.lt_log2_self
    have h2 : 2 ^ (n.log2 + 1) ≤ 2 ^ (n.log2 + 2) := Nat.pow_le_pow_right (by omega) (by omega)
    have h3 : 2 ^ (n.log2 + 1) ≤ 2 ^ d := Nat.pow_le_pow_right (by omega) (by omega)
    rw [Nat.div_eq_of_lt (by omega), Nat.div_eq_of_lt (by omega)]
theorem cut_zero (s : Bool) (n d : Nat) : Toward.zero.cut s n d = n / 2 ^ d := by
  unfold Toward.cut
  simp only [Nat.shiftLeft_eq, Nat.one_mul, Bool.toNat_false, Nat.add_zero]
  exact div_gap n d
theorem whole_part (m : Nat) (e : Int) : ((m <<< e.toNat / 2 ^ (-e).toNat : Nat) : Rat) ≤ (m : Rat) * pw e ∧ (m : Rat) * pw e < ((m <<< e.toNat / 2 ^ (-e).toNat : Nat) : Rat) + 1 := by
  have hx : (m : Rat) * pw e * ((2 ^ (-e).toNat : Nat) : Rat) = ((m <<< e.toNat : Nat) : Rat) := by
    rw [Nat.shiftLeft_eq, Rat.natCast_mul, ← pw_nat, ← pw_nat, Rat.mul_assoc, ← pw_add]
    congr 2
    omega
  have g0 : (0 : Rat) < ((2 ^ (-e).toNat : Nat) : Rat) := Rat.natCast_pos.2 (Nat.two_pow_pos _)
  have d1 := Nat.div_add_mod (m <<< e.toNat) (2 ^ (-e).toNat)
  have d2 := Nat.mod_lt (m <<< e.toNat) (Nat.two_pow_pos (-e).toNat)
  generalize m <<< e.toNat = n at *
  generalize 2 ^ (-e).toNat = g at *
  have d1 := congrArg (fun z : Nat => (z : Rat)) d1
  simp only [Rat.natCast_add, Rat.natCast_mul] at d1
  have d2 := Rat.natCast_lt_natCast.2 d2
  have d3 : (0 : Rat) ≤ ((n % g : Nat) : Rat) := Rat.natCast_nonneg
  constructor
  · refine Rat.le_of_mul_le_mul_right ?_ g0
    rw [hx]; grind
  · refine Rat.lt_of_mul_lt_mul_right ?_ (Rat.le_of_lt g0)
    rw [hx]; grind
end Fl
end Go.Ev

/- Floats as rational numbers: what a sine computes, where nothing is too great. -/
set_option linter.unusedVariables false
set_option linter.unusedSimpArgs false
set_option maxRecDepth 20000
namespace Go.Ev
open Ieee
namespace Fl
def sinP (u : Nat) : Nat → Nat
  | 0 => 4607182418800017408
  | n + 1 => fsub .f64 4607182418800017408 (fdiv .f64 (fmul .f64 u (sinP u n)) (FloatKind.f64.nearest (2 * (8 - (n : Int)) * (2 * (8 - (n : Int)) + 1))))
def sinO (f : Nat) : Nat := fmul .f64 (fmul .f64 f 4618760256179416344) (sinP (fmul .f64 (fmul .f64 f 4618760256179416344) (fmul .f64 f 4618760256179416344)) 8)

def abs64 (x : Nat) : Nat := x % 9223372036854775808
def sine64 (x : Nat) : Nat :=
  (fun f : Nat => (fun h : Nat => (fun h : Nat => bif fge .f64 f 4602678819172646912 then fneg .f64 (sinO h) else sinO h) (bif fgt .f64 h 4598175219545276416 then fsub .f64 4602678819172646912 h else h))
    (bif fge .f64 f 4602678819172646912 then fsub .f64 f 4602678819172646912 else f)) (bif flt .f64 (widen x) 0 then fadd .f64 (widen x) 4607182418800017408 else widen x)
def sineN (x : Nat) : Nat := narrow (sine64 x)
def sinOk (z : Nat) : Bool := fin .f32 z && (flt .f64 (abs64 (widen z)) 4607182418800017408 && !ovf (sine64 z))
theorem abs_sg (x : Nat) : sg .f64 (abs64 x) = false := by
  have : abs64 x < 9223372036854775808 := Nat.mod_lt _ (by decide)
  unfold sg
  rw [show signOf .f64 = 9223372036854775808 from rfl, Nat.div_eq_of_lt this]; rfl
theorem trunc_small {v : Nat} (hf : fin .f64 v = true) (h1 : -1 < ev .f64 v) (h2 : ev .f64 v < 1) : feq .f64 (fwhole .zero v) 0 = true := by
  obtain ⟨m, e, e1, e2⟩ := read_fin hf
  have nn : 0 ≤ (m : Rat) * pw e := Rat.mul_nonneg Rat.natCast_nonneg (Rat.le_of_lt (pw_pos _))
  have hv : ev .f64 v = sgd (sg .f64 v) ((m : Rat) * pw e) := by rw [e2]; rfl
  have hlt : (m : Rat) * pw e < 1 := by
    rw [hv] at h1 h2
    cases s : sg .f64 v <;> rw [s] at h1 h2 <;> simp only [sgd, cond_true, cond_false] at h1 h2 <;> grind
  obtain ⟨p1, p2⟩ := whole_part m e
  unfold fwhole FloatKind.decode FloatKind.encode
  rw [fin_nan hf, cond_false, e1]
  simp only [Datum.integral, Format.write]
  rw [cut_zero]
  have : m <<< e.toNat / 2 ^ (-e).toNat = 0 := by
    generalize m <<< e.toNat / 2 ^ (-e).toNat = n at *
    have : (n : Rat) < ((1 : Nat) : Rat) := by
      have : ((1 : Nat) : Rat) = 1 := rfl
      grind
    have := Rat.natCast_lt_natCast.1 this
    omega
  rw [this]
  cases sg .f64 v <;> decide +kernel
theorem one_ev : ev .f64 4607182418800017408 = 1 := by
  rw [ev_lit (k := .f64) false 1022 4503599627370496 (by decide) (by decide) (by decide) (by decide)]
  show ((4503599627370496 : Nat) : Rat) * pw (-1074 + 1022) = 1
  unfold pw
  decide +kernel
theorem sinOk_trunc {z : Nat} (h : sinOk z = true) (hl : z < 2 * signOf .f32) : feq .f64 (fwhole .zero (widen z)) 0 = true ∧ nan .f64 (widen z) = false ∧ fge .f64 (abs64 (widen z)) 4841369599423283200 = false ∧ fin .f32 z = true ∧ ovf (sine64 z) = false := by
  unfold sinOk at h
  simp only [Bool.and_eq_true, Bool.not_eq_true'] at h
  obtain ⟨h1, h2, h3⟩ := h
  have hx := widen_ex (b := z) (q := ev .f32 z) ⟨h1, hl, rfl⟩
  have hab : abs64 (widen z) = rung .f64 (widen z) := rfl
  have hrr : rung .f64 (abs64 (widen z)) = rung .f64 (widen z) := by rw [hab]; unfold rung; exact Nat.mod_mod _ _
  have hev : ev .f64 (abs64 (widen z)) = mg FloatKind.f64.format (rung .f64 (widen z)) := by unfold ev; rw [abs_sg, hrr]; rfl
  have hfa : fin .f64 (abs64 (widen z)) = true := by rw [fin_iff, hrr]; exact fin_iff.1 hx.f
  rw [flt_ev (fin_nan hfa) (by decide +kernel), decide_eq_true_eq, one_ev, hev] at h2
  have hw : ev .f64 (widen z) = sgd (sg .f64 (widen z)) (mg FloatKind.f64.format (rung .f64 (widen z))) := rfl
  have h0 := mg_nonneg FloatKind.f64.format (rung .f64 (widen z))
  refine ⟨trunc_small hx.f ?_ ?_, hx.nan, ?_, h1, h3⟩
  · rw [hw]; cases sg .f64 (widen z) <;> simp only [sgd, cond_true, cond_false] <;> grind
  · rw [hw]; cases sg .f64 (widen z) <;> simp only [sgd, cond_true, cond_false] <;> grind
  · have hc : flt .f64 4607182418800017408 4841369599423283200 = true := by decide +kernel
    rw [flt_ev (by decide +kernel) (by decide +kernel), decide_eq_true_eq, one_ev] at hc
    rw [fge_ev (fin_nan hfa) (by decide +kernel), decide_eq_false]
    rw [hev]
    exact Rat.not_le.2 (by grind)
end Fl
end Go.Ev

/- Floats as rational numbers: rounding to a whole number. -/
set_option linter.unusedVariables false
set_option linter.unusedSimpArgs false
namespace Go.Ev
open Ieee

namespace Fl
theorem Rep.up64 {q : Rat} (h : Rep .f32 q) : Rep .f64 q := by
  obtain ⟨w, h1, h2, h3⟩ := h
  exact (widen_ex (b := w) (q := q) ⟨h1, h2, h3⟩).rep
theorem far_int {q : Rat} (h : Rep .f32 q) (h0 : 0 ≤ q) (hq : (16777216 : Rat) ≤ q) : ∃ k : Nat, q = (k : Rat) := by
  obtain ⟨w, h1, h2, h3⟩ := h
  obtain ⟨m, e, e1, e2, e3, e4⟩ := read_fin2 h1
  have hv : sgd (sg .f32 w) ((m : Rat) * pw e) = q := by rw [e2]; exact h3
  have nn : 0 ≤ (m : Rat) * pw e := Rat.mul_nonneg Rat.natCast_nonneg (Rat.le_of_lt (pw_pos _))
  have hq' : (m : Rat) * pw e = q := by
    cases s : sg .f32 w <;> rw [s] at hv <;> simp only [sgd, cond_true, cond_false] at hv <;> grind
  by_cases he : 0 ≤ e
  · obtain ⟨j, rfl⟩ : ∃ j : Nat, e = (j : Int) := ⟨e.toNat, by omega⟩
    exact ⟨m * 2 ^ j, by rw [← hq', pw_nat, Rat.natCast_mul]⟩
  · exfalso
    have hm : m ≤ 16777215 := by have : 2 * FloatKind.f32.format.binade = 16777216 := by decide
                                 omega
    have hm' : (m : Rat) ≤ 16777215 := by
      have := Rat.natCast_le_natCast.2 hm
      exact this
    have hp : pw e ≤ 1 := by rw [← pw_zero]; exact pw_le (by omega)
    have hp0 := pw_pos e
    have : (m : Rat) * pw e ≤ (m : Rat) * 1 := Rat.mul_le_mul_of_nonneg_left hp Rat.natCast_nonneg
    grind
theorem even_ex {v : Nat} {q : Rat} (h : Ex .f64 v q) (hr : Rep .f32 q) : ∃ n : Int, Ex .f64 (fwhole .even v) (n : Rat) ∧ Rep .f32 (n : Rat) ∧ 2 * (n : Rat) ≤ 2 * q + 1 ∧ 2 * q ≤ 2 * (n : Rat) + 1 := by
  obtain ⟨m, e, e1, e2, _⟩ := read_fin2 h.f
  have hv : sgd (sg .f64 v) ((m : Rat) * pw e) = q := by rw [e2]; exact h.e
  have nn : 0 ≤ (m : Rat) * pw e := Rat.mul_nonneg Rat.natCast_nonneg (Rat.le_of_lt (pw_pos _))
  have hx : (m : Rat) * pw e * ((2 ^ (-e).toNat : Nat) : Rat) = ((m <<< e.toNat : Nat) : Rat) := by
    rw [Nat.shiftLeft_eq, Rat.natCast_mul, ← pw_nat, ← pw_nat, Rat.mul_assoc, ← pw_add]
    congr 2
    omega
  obtain ⟨c1, c2, _⟩ := cut_spec (sg .f64 v) (m <<< e.toNat) (-e).toNat
  unfold fwhole FloatKind.decode FloatKind.encode
  rw [h.nan, cond_false, e1]
  simp only [Datum.integral, Format.write]
  generalize Toward.even.cut (sg .f64 v) (m <<< e.toNat) (-e).toNat = c at *
  have g0 : 0 < 2 ^ (-e).toNat := Nat.two_pow_pos _
  have ha : Rep .f32 ((m : Rat) * pw e) := by
    cases s : sg .f64 v <;> rw [s] at hv <;> simp only [sgd, cond_true, cond_false] at hv
    · rw [hv]; exact hr
    · rw [show (m : Rat) * pw e = -q by grind]; exact hr.neg
  generalize m <<< e.toNat = N at *
  generalize 2 ^ (-e).toNat = g at *
  generalize (m : Rat) * pw e = a at *
  have g0' : (0 : Rat) < (g : Rat) := Rat.natCast_pos.2 g0
  have d1 : 2 * a ≤ 2 * (c : Rat) + 1 := by
    have := Rat.natCast_le_natCast.2 c1
    simp only [Rat.natCast_mul, Rat.natCast_add] at this
    refine Rat.le_of_mul_le_mul_right (c := (g : Rat)) ?_ g0'
    have two : ((2 : Nat) : Rat) = 2 := rfl
    have one : ((1 : Nat) : Rat) = 1 := rfl
    rw [two, one] at this
    grind
  have d2 : 2 * (c : Rat) ≤ 2 * a + 1 := by
    have := Rat.natCast_le_natCast.2 c2
    simp only [Rat.natCast_mul, Rat.natCast_add] at this
    refine Rat.le_of_mul_le_mul_right (c := (g : Rat)) ?_ g0'
    have two : ((2 : Nat) : Rat) = 2 := rfl
    rw [two] at this
    grind
  have hc : Rep .f32 (c : Rat) := by
    by_cases hb : a < 16777216
    · have : (c : Rat) < ((16777217 : Nat) : Rat) := by
        have : ((16777217 : Nat) : Rat) = 16777217 := rfl
        grind
      have := Rat.natCast_lt_natCast.1 this
      exact rep32 (c : Int) 0 (by rw [Nat.pow_zero]; exact Rat.mul_one _) (by omega) (by omega)
    · obtain ⟨k, hk⟩ := far_int ha nn (Rat.not_lt.1 hb)
      have : c = k := by
        rw [hk] at d1 d2
        have l1 : ((2 * k : Nat) : Rat) ≤ ((2 * c + 1 : Nat) : Rat) := by
          rw [Rat.natCast_mul, Rat.natCast_add, Rat.natCast_mul]; exact d1
        have l2 : ((2 * c : Nat) : Rat) ≤ ((2 * k + 1 : Nat) : Rat) := by
          rw [Rat.natCast_mul, Rat.natCast_add, Rat.natCast_mul]; exact d2
        have l1 := Rat.natCast_le_natCast.1 l1
        have l2 := Rat.natCast_le_natCast.1 l2
        omega
      rw [this, ← hk]; exact ha
  cases s : sg .f64 v with
  | false =>
    rw [s] at hv
    simp only [sgd, cond_false] at hv
    refine ⟨(c : Int), ?_, hc, by rw [← hv]; exact d2, by rw [← hv]; exact d1⟩
    have hs : sgd false ((c : Rat) * pw 0) = ((c : Int) : Rat) := by rw [pw_zero, Rat.mul_one]; rfl
    exact (Rnd.of hs).ex hc.up64
  | true =>
    rw [s] at hv
    simp only [sgd, cond_true] at hv
    have en : ((-(c : Int) : Int) : Rat) = -(c : Rat) := Rat.intCast_neg _
    refine ⟨-(c : Int), ?_, by rw [en]; exact hc.neg, by rw [en, ← hv]; grind, by rw [en, ← hv]; grind⟩
    have hs : sgd true ((c : Rat) * pw 0) = ((-(c : Int) : Int) : Rat) := by rw [pw_zero, Rat.mul_one, en]; rfl
    exact (Rnd.of hs).ex (by rw [en]; exact hc.neg.up64)
theorem even_ovf {x : Nat} (hl : x < 2 * signOf .f32) (hc : canon .f32 x = x) : ovf (fwhole .even (widen x)) = false := by
  cases hn : nan .f32 x with
  | true =>
    rw [canon_nan hn] at hc
    rw [← hc]
    decide +kernel
  | false =>
    cases hf : fin .f32 x with
    | true =>
      have hx : Ex .f32 x (ev .f32 x) := ⟨hf, hl, rfl⟩
      obtain ⟨n, h1, h2, _⟩ := even_ex (widen_ex hx) hx.rep
      exact (narrow_ex h1 h2).2
    | false =>
      have : x = 2139095040 ∨ x = 4286578688 := by
        have h1 : nan .f32 x = false := hn
        have h3 : ¬ rung .f32 x < infOf .f32 := by rw [← fin_iff, hf]; exact Bool.noConfusion
        have h2 := x_cases hl
        rw [nan_false] at h1
        have e1 : infOf .f32 = 2139095040 := rfl
        have e2 : signOf .f32 = 2147483648 := rfl
        have e3 : rung .f32 x = x % 2147483648 := rfl
        rw [e1] at h1 h3
        rw [e2] at h2
        omega
      rcases this with rfl | rfl <;> decide +kernel
end Fl
end Go.Ev

/- math.RoundToEven, for all floats. -/
set_option linter.unusedVariables false
set_option linter.unusedSimpArgs false
namespace Go.Ev

def sEven : Sm := fun args hs K =>
  match args with
  | [.float .f64 x] => K (.float .f64 (fwhole .even x)) hs
  | _ => False

theorem quiet_pos (t : Nat) : 0 < (FloatKind.f64.format.quiet t) % FloatKind.f64.format.binade := by
  have e : (FloatKind.f64.format.quiet t) % FloatKind.f64.format.binade = (t ||| 2 ^ 51) % 2 ^ 52 := rfl
  rw [e]
  have h : ((t ||| 2 ^ 51) % 2 ^ 52).testBit 51 = true := by
    rw [Nat.testBit_mod_two_pow, Nat.testBit_or, Nat.testBit_two_pow_self]
    simp
  rcases Nat.eq_zero_or_pos ((t ||| 2 ^ 51) % 2 ^ 52) with h0 | h0
  · rw [h0] at h; simp at h
  · exact h0
theorem enc_nan (s : Bool) (t : Nat) : nan .f64 (FloatKind.f64.encode (.nan s (FloatKind.f64.format.quiet t))) = true ∧ FloatKind.f64.encode (.nan s (FloatKind.f64.format.quiet t)) < 2 * signOf .f64 := by
  have h := quiet_pos t
  have h2 : (FloatKind.f64.format.quiet t) % FloatKind.f64.format.binade < 4503599627370496 := Nat.mod_lt _ (by decide)
  have e : FloatKind.f64.encode (.nan s (FloatKind.f64.format.quiet t)) = if s then 9223372036854775808 + (9218868437227405312 + (FloatKind.f64.format.quiet t) % FloatKind.f64.format.binade) else (9218868437227405312 + (FloatKind.f64.format.quiet t) % FloatKind.f64.format.binade) := rfl
  have e2 : 2 * signOf .f64 = 18446744073709551616 := rfl
  generalize (FloatKind.f64.format.quiet t) % FloatKind.f64.format.binade = r at *
  rw [nan_iff, e, e2]
  show 9218868437227405312 < _ % 9223372036854775808 ∧ _
  split <;> omega
theorem choose_ext (P : Program) (what : String) (w : World) : ∃ r w', (choose (.extern what 2)).run P w = .ok r w' ∧ Drawn w w' :=
  ⟨(Question.extern what 2).cut (w.tape w.drawn (Question.extern what 2)), _, by simp [Question.forced], Drawn.drew w⟩

theorem ok_even {P : Program} {k : FuncId} {fn : Func} (name : String) (hf : P.funcs[k]? = some fn) (hname : (fn.name == "runtime.NumGoroutine") = false)
    (hb : fn.body.isNone = true) (hn : Extern.findNext fn = none) (he : Extern.find fn = some (Extern.MathFloor.toIntegral name .even)) : FnOk P k sEven := by
  refine fnOk_ext hf hname hb hn he ?_
  intro args K h
  unfold sEven at h
  split at h
  · rename_i x
    refine ⟨_, h, fun K' h' => h', ?_⟩
    intro w M cargs hv
    cases hv with
    | cons a b =>
      cases b
      cases a with
      | float _ _ b' h1 h2 =>
        subst h2
        cases hx : nan .f64 b' with
        | false =>
          rw [canon_not hx]
          have hd := read_not_nan hx
          have hp : ∀ d, FloatKind.f64.decode b' = d → plainD d = true := by
            intro d e
            cases d with
            | nan s t => exact absurd e (hd s t)
            | infinity s => rfl
            | number s m p => rfl
          have hpl : plainD (((FloatKind.f64.decode b').integral .even)) = true := by
            have := hp _ rfl
            revert this
            cases FloatKind.f64.decode b' with
            | nan s t => exact id
            | infinity s => exact fun _ => rfl
            | number s m p => exact fun _ => rfl
          refine ⟨.float .f64 (FloatKind.f64.encode ((FloatKind.f64.decode b').integral .even)), w, ?_, Drawn.refl w, ?_⟩
          · have h0 : (Extern.MathFloor.toIntegral name .even #[.float .f64 b']) = (match FloatKind.f64.decode b' with
              | .nan s t => (if FloatKind.f64.format.quiet t = t then pure (.float .f64 b') else do
                let kept ← choose (.extern "math.Floor,Ceil,Trunc,RoundToEven.signallingNaN kept" 2)
                pure (.float .f64 (if kept == 1 then b' else FloatKind.f64.encode (.nan s (FloatKind.f64.format.quiet t)))))
              | d => pure (.float .f64 (FloatKind.f64.encode (d.integral .even)))) := rfl
            show (Extern.MathFloor.toIntegral name .even #[.float .f64 b']).run P w = _
            rw [h0]
            have := hp _ rfl
            revert this
            cases FloatKind.f64.decode b' with
            | nan s t => exact fun c => by cases c
            | infinity s => exact fun _ => rfl
            | number s m p => exact fun _ => rfl
          · have hn' : nan .f64 (FloatKind.f64.encode ((FloatKind.f64.decode b').integral .even)) = false := nan_write hpl
            refine .float _ _ _ ?_ ?_
            · have := FloatKind.f64.format.write_lt ((FloatKind.f64.decode b').integral .even)
              rw [← width_eq]
              exact this
            · unfold fwhole
              rw [hx, cond_false, canon_not hn']
        | true =>
          rw [canon_nan hx]
          have hw : fwhole .even (qnan .f64) = qnan .f64 := by unfold fwhole; rw [nan_qnan]; rfl
          rw [hw]
          obtain ⟨s, t, hr⟩ := read_nan hx
          have hr : FloatKind.f64.decode b' = .nan s t := hr
          have h0 : (Extern.MathFloor.toIntegral name .even #[.float .f64 b']) = (match FloatKind.f64.decode b' with
              | .nan s t => (if FloatKind.f64.format.quiet t = t then pure (.float .f64 b') else do
                let kept ← choose (.extern "math.Floor,Ceil,Trunc,RoundToEven.signallingNaN kept" 2)
                pure (.float .f64 (if kept == 1 then b' else FloatKind.f64.encode (.nan s (FloatKind.f64.format.quiet t)))))
              | d => pure (.float .f64 (FloatKind.f64.encode (d.integral .even)))) := rfl
          rw [hr] at h0
          simp only at h0
          by_cases hq : FloatKind.f64.format.quiet t = t
          · rw [if_pos hq] at h0
            refine ⟨.float .f64 b', w, ?_, Drawn.refl w, .float _ _ _ h1 (canon_nan hx).symm⟩
            show (Extern.MathFloor.toIntegral name .even #[.float .f64 b']).run P w = _
            rw [h0]; rfl
          · rw [if_neg hq] at h0
            obtain ⟨r, w', hc, hd⟩ := choose_ext P "math.Floor,Ceil,Trunc,RoundToEven.signallingNaN kept" w
            refine ⟨.float .f64 (if r == 1 then b' else FloatKind.f64.encode (.nan s (FloatKind.f64.format.quiet t))), w', ?_, hd, ?_⟩
            · show (Extern.MathFloor.toIntegral name .even #[.float .f64 b']).run P w = _
              rw [h0, Sem.run_bind, hc]; rfl
            · obtain ⟨e1, e2⟩ := enc_nan s t
              cases (r == 1) with
              | true => exact .float _ _ _ h1 (canon_nan hx).symm
              | false => exact .float _ _ _ e2 (canon_nan e1).symm
  · exact h.elim

end Go.Ev

