/- Plain: shapes that are made by a stack of free nodes are valid. -/
import Derived.Test.YtmkomfhnomnbiaaScene
set_option linter.unusedVariables false
set_option linter.unusedSimpArgs false
set_option maxRecDepth 100000
namespace Go.Proofs.Ytmkomfhnomnbiaa
open Go.Ev

/-! how often a node is a child -/
theorem inc1_get (u : List Int) (c : Int) (hc : 0 ≤ c) (p : Nat) (hp : p < u.length) : (inc1 u c)[p]? = some ((u[p]'hp) + (if c = (p : Int) then 1 else 0)) := by
  unfold inc1
  by_cases e : c = (p : Int)
  · subst e
    rw [Int.toNat_natCast, List.getElem?_set_self hp, List.getElem?_eq_getElem hp]
    simp
  · rw [List.getElem?_set_ne (by omega), List.getElem?_eq_getElem hp, if_neg e, Int.add_zero]
theorem inc1_len (u : List Int) (c : Int) : (inc1 u c).length = u.length := by unfold inc1; exact List.length_set
theorem incs_len : ∀ (cs : List Int) (u : List Int), (incs u cs).length = u.length
  | [], _ => rfl
  | c :: cs, u => (incs_len cs (inc1 u c)).trans (inc1_len u c)
theorem incs_get : ∀ (cs : List Int) (u : List Int), (∀ c ∈ cs, 0 ≤ c) → ∀ (p : Nat) (hp : p < u.length), (incs u cs)[p]? = some ((u[p]'hp) + (cs.count (p : Int) : Nat))
  | [], u, _, p, hp => by
    show u[p]? = _
    rw [List.getElem?_eq_getElem hp]
    simp
  | c :: cs, u, h, p, hp => by
    have hp' : p < (inc1 u c).length := by rw [inc1_len]; exact hp
    have h1 := inc1_get u c (h c (by simp)) p hp
    have h2 := incs_get cs (inc1 u c) (fun c' hc' => h c' (by simp [hc'])) p hp'
    show (incs (inc1 u c) cs)[p]? = _
    rw [h2]
    congr 1
    have h3 : (inc1 u c)[p]'hp' = (u[p]'hp) + (if c = (p : Int) then 1 else 0) := by
      have := inc1_get u c (h c (by simp)) p hp
      rw [List.getElem?_eq_getElem hp'] at this
      exact Option.some.inj this
    rw [h3, List.count_cons]
    by_cases e : c = (p : Int)
    · rw [if_pos e, e, beq_self_eq_true, if_pos rfl]; omega
    · rw [if_neg e, beq_eq_false_iff_ne.2 e, if_neg (by decide)]; omega
theorem uses_len (ns : List NodeD) (u : List Int) : (usesOf ns u).length = u.length := by
  unfold usesOf
  induction ns generalizing u with
  | nil => rfl
  | cons n r ih => rw [List.foldl_cons, ih, incs_len]
theorem uses_get (ns : List NodeD) : ∀ (u : List Int), (∀ n ∈ ns, ∀ c ∈ kidsN n, 0 ≤ c) → ∀ (p : Nat) (hp : p < u.length), (usesOf ns u)[p]? = some ((u[p]'hp) + ((ns.flatMap kidsN).count (p : Int) : Nat)) := by
  induction ns with
  | nil =>
    intro u _ p hp
    show u[p]? = _
    rw [List.getElem?_eq_getElem hp]
    simp
  | cons n r ih =>
    intro u h p hp
    have hp' : p < (incs u (kidsN n)).length := by rw [incs_len]; exact hp
    have h1 := incs_get (kidsN n) u (h n (by simp)) p hp
    have h2 := ih (incs u (kidsN n)) (fun m hm => h m (by simp [hm])) p hp'
    show (usesOf r (incs u (kidsN n)))[p]? = _
    rw [h2]
    rw [List.getElem?_eq_getElem hp'] at h1
    rw [Option.some.inj h1, List.flatMap_cons, List.count_append]
    congr 1
    omega

/-! nodes and the free ones among them -/
def upTo (n : Nat) : List Int := (List.range n).map Int.ofNat
theorem upTo_mem {n : Nat} {x : Int} (h : x ∈ upTo n) : 0 ≤ x ∧ x < n := by
  unfold upTo at h
  obtain ⟨i, hi, rfl⟩ := List.mem_map.1 h
  have := List.mem_range.1 hi
  exact ⟨Int.natCast_nonneg i, by show (i : Int) < n; omega⟩
theorem upTo_succ (n : Nat) : upTo (n + 1) = upTo n ++ [(n : Int)] := by
  unfold upTo
  rw [List.range_succ, List.map_append]
  rfl
theorem upTo_count (n p : Nat) (h : p < n) : (upTo n).count (p : Int) = 1 := by
  induction n with
  | zero => omega
  | succ n ih =>
    rw [upTo_succ, List.count_append, List.count_cons, List.count_nil]
    by_cases e : p = n
    · subst e
      have : (upTo p).count (p : Int) = 0 := List.count_eq_zero.2 fun hm => by have := upTo_mem hm; omega
      rw [this, beq_self_eq_true, if_pos rfl]
    · rw [ih (by omega), beq_eq_false_iff_ne.2 (by omega), if_neg (by decide)]
structure Stack (ns : List NodeD) (fr : List Int) : Prop where
  nodes : ∀ (j : Nat) (n : NodeD), ns[j]? = some n → nodeB j n = true
  perm : (ns.flatMap kidsN ++ fr).Perm (upTo ns.length)
  last : ns ≠ [] → fr.getLast? = some ((ns.length : Int) - 1)
theorem stack_nil : Stack [] [] := ⟨fun j n h => by simp at h, by simp [upTo], fun h => absurd rfl h⟩
theorem Stack.free {ns : List NodeD} {fr : List Int} (h : Stack ns fr) : ∀ c ∈ fr, 0 ≤ c ∧ c < ns.length := fun c hc =>
  upTo_mem (h.perm.subset (List.mem_append_right _ hc))
theorem Stack.kids {ns : List NodeD} {fr : List Int} (h : Stack ns fr) : ∀ n ∈ ns, ∀ c ∈ kidsN n, 0 ≤ c := fun n hn c hc =>
  (upTo_mem (h.perm.subset (List.mem_append_left _ (List.mem_flatMap.2 ⟨n, hn, hc⟩)))).1
theorem Stack.len {ns : List NodeD} {fr : List Int} (h : Stack ns fr) : fr.length ≤ ns.length := by
  have := h.perm.length_eq
  rw [List.length_append] at this
  unfold upTo at this
  rw [List.length_map, List.length_range] at this
  omega
theorem Stack.push {ns : List NodeD} {fr rest : List Int} (h : Stack ns fr) {n : NodeD} (hf : fr = rest ++ kidsN n) (hn : nodeB ns.length n = true) : Stack (ns ++ [n]) (rest ++ [(ns.length : Int)]) := by
  refine ⟨fun j m hj => ?_, ?_, fun _ => by simp⟩
  · rcases Nat.lt_or_ge j ns.length with hl | hl
    · rw [List.getElem?_append_left hl] at hj
      exact h.nodes j m hj
    · rw [List.getElem?_append_right hl] at hj
      have hj0 := lt_of_get hj
      simp only [List.length_singleton] at hj0
      have : j = ns.length := by omega
      subst this
      rw [Nat.sub_self] at hj
      cases hj
      exact hn
  · have hp := h.perm
    rw [hf] at hp
    rw [List.length_append, List.length_singleton, upTo_succ, List.flatMap_append, List.flatMap_singleton]
    refine List.Perm.trans ?_ (hp.append_right _)
    rw [List.append_assoc, List.append_assoc]
    refine List.Perm.append_left _ ?_
    rw [← List.append_assoc]
    exact List.Perm.append_right _ List.perm_append_comm
theorem Stack.valid {ns : List NodeD} {r : Int} (h : Stack ns [r]) (h1 : 1 ≤ ns.length) (h2 : ns.length ≤ 16) : validS ns = true := by
  have hr : r = (ns.length : Int) - 1 := by
    have := h.last (fun e => by rw [e] at h1; simp at h1)
    simpa using this
  unfold validS
  simp only [Bool.and_eq_true]
  refine ⟨inR_iff.2 (by omega), ?_, ?_⟩
  · exact okUp_all fun j n _ hj => h.nodes j n hj
  · refine List.all_eq_true.2 fun x hx => ?_
    obtain ⟨p, hp, rfl⟩ := List.mem_iff_getElem.1 hx
    have hul : (usesAt ns ns.length).length = ns.length := by
      unfold usesAt
      rw [uses_len, List.length_replicate]
    rw [List.length_take, hul] at hp
    rw [List.getElem_take]
    have hu := uses_get ns (List.replicate ns.length 0) h.kids p (by rw [List.length_replicate]; omega)
    have e0 : usesAt ns ns.length = usesOf ns (List.replicate ns.length 0) := by unfold usesAt; rw [List.take_length]
    have hpp : p < (usesAt ns ns.length).length := by rw [hul]; omega
    have hc : (ns.flatMap kidsN ++ [r]).count (p : Int) = 1 := by rw [h.perm.count_eq]; exact upTo_count _ _ (by omega)
    rw [List.count_append, List.count_cons, List.count_nil, beq_eq_false_iff_ne.2 (by omega), if_neg (by decide)] at hc
    rw [← e0, List.getElem?_eq_getElem hpp] at hu
    rw [Option.some.inj hu, List.getElem_replicate]
    simp only [beq_iff_eq]
    omega

/-! the numbers of nodes -/
def quartV (n : Int) : Nat := fdiv .f32 (FloatKind.f32.nearest n) 1082130432
def sixtV (n : Int) : Nat := fdiv .f32 (FloatKind.f32.nearest n) 1098907648
--B sizeV Nat → Nat
def sizeV (x : Nat) : Nat := bif fle .f32 x 0 then fsub .f32 0 x else x
theorem tab_small : (List.range 33).all (fun j => finN (quartV (Int.ofNat j - 16)) && (finN (sizeV (quartV (Int.ofNat j - 16))) && !flt .f32 (sizeV (quartV (Int.ofNat j - 16))) 0)) = true := by decide +kernel
theorem tab_pos : (List.range 8).all (fun j => finN (quartV (1 + Int.ofNat j)) && !fle .f32 (quartV (1 + Int.ofNat j)) 0) = true := by decide +kernel
theorem tab_turn : (List.range 17).all (fun j => finN (sixtV (Int.ofNat j - 8))) = true := by decide +kernel
theorem small_fin {n : Int} (h : 0 ≤ n ∧ n < 33) : finN (quartV (n - 16)) = true ∧ finN (sizeV (quartV (n - 16))) = true ∧ flt .f32 (sizeV (quartV (n - 16))) 0 = false := by
  obtain ⟨m, rfl⟩ : ∃ m : Nat, n = Int.ofNat m := ⟨n.toNat, (Int.toNat_of_nonneg h.1).symm⟩
  have hm : m < 33 := by have h2 : (m : Int) < 33 := h.2; omega
  have := List.all_eq_true.1 tab_small m (List.mem_range.2 hm)
  simp only [Bool.and_eq_true, Bool.not_eq_true'] at this
  exact this
theorem pos_fin {n : Int} (h : 0 ≤ n ∧ n < 8) : finN (quartV (1 + n)) = true ∧ fle .f32 (quartV (1 + n)) 0 = false := by
  obtain ⟨m, rfl⟩ : ∃ m : Nat, n = Int.ofNat m := ⟨n.toNat, (Int.toNat_of_nonneg h.1).symm⟩
  have hm : m < 8 := by have h2 : (m : Int) < 8 := h.2; omega
  have := List.all_eq_true.1 tab_pos m (List.mem_range.2 hm)
  simp only [Bool.and_eq_true, Bool.not_eq_true'] at this
  exact this
theorem turn_fin {n : Int} (h : 0 ≤ n ∧ n < 17) : finN (sixtV (n - 8)) = true := by
  obtain ⟨m, rfl⟩ : ∃ m : Nat, n = Int.ofNat m := ⟨n.toNat, (Int.toNat_of_nonneg h.1).symm⟩
  have hm : m < 17 := by have h2 : (m : Int) < 17 := h.2; omega
  exact List.all_eq_true.1 tab_turn m (List.mem_range.2 hm)
/-- A number that a node of a kind may have. -/
def numB (k : Int) (x : Nat) : Bool := finN x && !sgnB (kindS k) x
theorem nums_of {k : Int} (hk : isK k = true) {xs : List Nat} (hl : (xs.length : Int) = kindN k) (h : ∀ x ∈ xs, numB k x = true) : numsB k xs = true := by
  unfold numsB
  rw [hk, hl, beq_self_eq_true, Bool.true_and, Bool.true_and]
  have h1 : xs.any (fun x => !finN x) = false := List.any_eq_false.2 fun x hx => by
    have := h x hx
    unfold numB at this
    simp only [Bool.and_eq_true] at this
    simp [this.1]
  have h2 : xs.any (fun x => sgnB (kindS k) x) = false := List.any_eq_false.2 fun x hx => by
    have := h x hx
    unfold numB at this
    simp only [Bool.and_eq_true, Bool.not_eq_true'] at this
    simp [this.2]
  rw [h1, h2]
  rfl

end Go.Proofs.Ytmkomfhnomnbiaa
