/- Finding a thing by its name. -/
import Derived.Test.YtmkomfhnomnbiaaScene
import Derived.Test.YtmkomfhnomnbiaaEvCmp
set_option linter.unusedVariables false
set_option linter.unusedSimpArgs false
set_option maxRecDepth 100000
namespace Go.Proofs.Ytmkomfhnomnbiaa
open Go.Ev

--B cmpAt List ThingD → Str → Nat → Int
def cmpAt (ts : List ThingD) (s : Str) (k : Nat) : Int := match ts[k]? with
  | some t => cmpB t.1 s
  | none => 0
--B bsGo (Nat → Bool) → Nat → Nat → Nat
def bsGo (p : Nat → Bool) (i j : Nat) : Nat := if i < j then (if p ((i + j) / 2) then bsGo p ((i + j) / 2 + 1) j else bsGo p i ((i + j) / 2)) else i
termination_by j - i
decreasing_by all_goals omega
--B findN List ThingD → Str → Nat
def findN (ts : List ThingD) (s : Str) : Nat := bsGo (fun k => decide (cmpAt ts s k < 0)) 0 ts.length
--B findB List ThingD → Str → Bool
def findB (ts : List ThingD) (s : Str) : Bool := decide (findN ts s < ts.length) && decide (cmpAt ts s (findN ts s) = 0)

theorem u64_i64 {n : Int} (h1 : 0 ≤ n) (h2 : n < 18446744073709551616) : IntKind.u64.wrap (IntKind.i64.wrap n) = n := by
  have e1 : ∀ m : Int, IntKind.u64.wrap m = m % 18446744073709551616 := fun m => rfl
  have e2 : ∀ m : Int, IntKind.i64.wrap m % 18446744073709551616 = m % 18446744073709551616 := by
    intro m
    rw [show IntKind.i64.wrap m = if decide (m % 18446744073709551616 ≥ 9223372036854775808) then m % 18446744073709551616 - 18446744073709551616 else m % 18446744073709551616 from rfl]
    by_cases h : m % 18446744073709551616 ≥ 9223372036854775808
    · rw [decide_eq_true h, if_pos rfl]; omega
    · rw [decide_eq_false h, if_neg (by decide)]; omega
  rw [e1, e2]
  omega

abbrev s_internal_bytealg_abigen_runtime_cmpstring : Sm := sCmp
theorem ok_internal_bytealg_abigen_runtime_cmpstring : FnOk Try.prog 70 sCmp := ok_cmp Try.func70 (by kernel_rfl) (by kernel_rfl) (by kernel_rfl) (by kernel_rfl)

/-! internal/bytealg.CompareString -/
noncomputable def c_internal_bytealg_CompareString : Ctx := mkC Try.prog tyT [(70, s_internal_bytealg_abigen_runtime_cmpstring)] [] [] 8 (fun _ => none) 0
theorem w_internal_bytealg_CompareString (a b : Str) (K : V → Heap → Prop) : wpFn c_internal_bytealg_CompareString Try.f56 (encAs [.cell .str, .cell .str] (a, b, ())) [] K =
  K (.int .i64 (cmpB a b)) [] := by kernel_rfl
noncomputable def s_internal_bytealg_CompareString : Sm := semT [.cell .str, .cell .str] fun x => match x with | (a, b, _) => .int .i64 (cmpB a b)
theorem ok_internal_bytealg_CompareString : FnOk Try.prog 56 s_internal_bytealg_CompareString := fnOk_typed (fnOk_runC (C := c_internal_bytealg_CompareString) rfl mixed (.cons ok_internal_bytealg_abigen_runtime_cmpstring .nil) .nil .nil Try.func56 (by kernel_rfl)) fun (x : ((Str) × (Str) × Unit)) wf K h => by
  obtain ⟨a, b, ⟨⟩⟩ := x
  replace h : K (.int .i64 (cmpB a b)) [] := h
  rw [w_internal_bytealg_CompareString a b K]
  exact h

/-! strings.Compare -/
noncomputable def c_strings_Compare : Ctx := mkC Try.prog tyT [(56, s_internal_bytealg_CompareString)] [] [] 8 (fun _ => none) 0
theorem w_strings_Compare (a b : Str) (K : V → Heap → Prop) : wpFn c_strings_Compare Try.f37 (encAs [.cell .str, .cell .str] (a, b, ())) [] K =
  K (.int .i64 (cmpB a b)) [] := by kernel_rfl
noncomputable def s_strings_Compare : Sm := semT [.cell .str, .cell .str] fun x => match x with | (a, b, _) => .int .i64 (cmpB a b)
theorem ok_strings_Compare : FnOk Try.prog 37 s_strings_Compare := fnOk_typed (fnOk_runC (C := c_strings_Compare) rfl mixed (.cons ok_internal_bytealg_CompareString .nil) .nil .nil Try.func37 (by kernel_rfl)) fun (x : ((Str) × (Str) × Unit)) wf K h => by
  obtain ⟨a, b, ⟨⟩⟩ := x
  replace h : K (.int .i64 (cmpB a b)) [] := h
  rw [w_strings_Compare a b K]
  exact h

/-! impl.find$1 -/
noncomputable def c_impl_find_1 : Ctx := mkC Try.prog tyT [(37, s_strings_Compare)] [] [] 9 (fun _ => none) 0
theorem w_impl_find_1 (t : ThingD) (s : Str) (K : V → Heap → Prop) : wpFn c_impl_find_1 Try.f36 (encAs [.agg tT, .cell .str] (t, s, ())) [] K =
  K (.int .i64 (cmpB (Prod.fst t) s)) [] := by kernel_rfl
noncomputable def s_impl_find_1 : Sm := semT [.agg tT, .cell .str] fun x => match x with | (t, s, _) => .int .i64 (cmpB t.1 s)
theorem ok_impl_find_1 : FnOk Try.prog 36 s_impl_find_1 := fnOk_typed (fnOk_runC (C := c_impl_find_1) rfl mixed (.cons ok_strings_Compare .nil) .nil .nil Try.func36 (by kernel_rfl)) fun (x : ((ThingD) × (Str) × Unit)) wf K h => by
  obtain ⟨t, s, ⟨⟩⟩ := x
  replace h : K (.int .i64 (cmpB t.1 s)) [] := h
  rw [w_impl_find_1 t s K]
  exact h

/-! slices.BinarySearchFunc[[]impl.Thing,impl.Thing,string] -/
noncomputable def a_slices_BinarySearchFunc__string : Nat → Option Ann := fun n => bif Nat.beq n 3 then some ⟨[0,1,2,8,9,10],0,false⟩ else none
noncomputable def c_slices_BinarySearchFunc__string : Ctx := mkC Try.prog tyT [(36, s_impl_find_1)] [] [] 49 a_slices_BinarySearchFunc__string 0
noncomputable def fr_slices_BinarySearchFunc__string_3 (ts : List ThingD) (s : Str) (n i j : Int) : Fr := [(0, .vec tT ts), (1, .str s), (2, .fn 36 []), (8, .int .i64 n), (9, .int .i64 i), (10, .int .i64 j)]
theorem r_slices_BinarySearchFunc__string_3 (ts : List ThingD) (s : Str) (n i j : Int) (Kn : Fr → Heap → Prop) (K : V → Heap → Prop) : round c_slices_BinarySearchFunc__string ⟨[0,1,2,8,9,10],0,false⟩ (lb c_slices_BinarySearchFunc__string 3 Try.f35) (fr_slices_BinarySearchFunc__string_3 ts s n i j) [] Kn (lk c_slices_BinarySearchFunc__string 3 Try.f35 [] K) =
  cond (decide (i < j))
    (cond (decide (0 ≤ IntKind.wrap IntKind.i64 (Int.fdiv (IntKind.wrap IntKind.u64 (IntKind.wrap IntKind.i64 (i + j))) (2 ^ 1))))
      ((match ts[Int.toNat (IntKind.wrap IntKind.i64 (Int.fdiv (IntKind.wrap IntKind.u64 (IntKind.wrap IntKind.i64 (i + j))) (2 ^ 1)))]? with
        | some y0 => cond (decide (cmpB (Prod.fst y0) s < 0))
          (Kn [(0, (.vec tT (ts))), (1, (.str (s))), (2, (.fn 36 [])), (8, (.int .i64 (n))), (9, (.int .i64 (IntKind.wrap IntKind.i64 (IntKind.wrap IntKind.i64 (Int.fdiv (IntKind.wrap IntKind.u64 (IntKind.wrap IntKind.i64 (i + j))) (2 ^ 1)) + 1)))), (10, (.int .i64 (j)))] [])
          (Kn [(0, (.vec tT (ts))), (1, (.str (s))), (2, (.fn 36 [])), (8, (.int .i64 (n))), (9, (.int .i64 (i))), (10, (.int .i64 (IntKind.wrap IntKind.i64 (Int.fdiv (IntKind.wrap IntKind.u64 (IntKind.wrap IntKind.i64 (i + j))) (2 ^ 1)))))] [])
        | none => False))
      (False))
    (cond (decide (i < n))
      (cond (decide (0 ≤ i))
        ((match ts[Int.toNat i]? with
          | some y1 => K (.tuple [(.int .i64 (i)), (.bool (cmpB (Prod.fst y1) s == 0))]) []
          | none => False))
        (False))
      (K (.tuple [(.int .i64 (i)), (.bool false)]) [])) := by kernel_rfl
theorem w_slices_BinarySearchFunc__string (ts : List ThingD) (s : Str) (K : V → Heap → Prop) : wpFn c_slices_BinarySearchFunc__string Try.f35 (encAs [.cell (.slice tT), .cell .str, .fn 36] (ts, s, (), ())) [] K =
  LoopE c_slices_BinarySearchFunc__string ⟨[0, 1, 2, 8, 9, 10], 0, false⟩ (lb c_slices_BinarySearchFunc__string 3 Try.f35) [(0, (.vec tT (ts))), (1, (.str (s))), (2, (.fn 36 [])), (8, (.int .i64 ((↑(List.length ts) : Int)))), (9, (.int .i64 0)), (10, (.int .i64 ((↑(List.length ts) : Int))))] [] (lk c_slices_BinarySearchFunc__string 3 Try.f35 [] K) := by kernel_rfl
noncomputable def s_slices_BinarySearchFunc__string : Sm := semT [.cell (.slice tT), .cell .str, .fn 36] fun x => match x with | (ts, s, _, _) => .tuple [.int .i64 (findN ts s), .bool (findB ts s)]
theorem ok_slices_BinarySearchFunc__string : FnOk Try.prog 35 s_slices_BinarySearchFunc__string := fnOk_typed (fnOk_runC (C := c_slices_BinarySearchFunc__string) rfl mixed (.cons ok_impl_find_1 .nil) .nil .nil Try.func35 (by kernel_rfl)) fun (x : ((List ThingD) × (Str) × Unit × Unit)) wf K h => by
  obtain ⟨ts, s, ⟨⟩, ⟨⟩⟩ := x
  replace h : K (.tuple [.int .i64 (findN ts s), .bool (findB ts s)]) [] := h
  rw [w_slices_BinarySearchFunc__string ts s K]
  obtain ⟨⟨wl, _⟩, _⟩ := wf
  have wl : ts.length ≤ 9223372036854775807 := wl
  refine loop_run (σ := Nat × Nat) (fun p => fr_slices_BinarySearchFunc__string_3 ts s ts.length p.1 p.2) (fun _ => []) (fun p => p.1 ≤ p.2 ∧ p.2 ≤ ts.length ∧ bsGo (fun k => decide (cmpAt ts s k < 0)) p.1 p.2 = findN ts s) (fun p => p.2 - p.1) ?_ (0, ts.length) ⟨Nat.zero_le _, Nat.le_refl _, rfl⟩
  rintro ⟨i, j⟩ ⟨hij, hj, he⟩ Kn hk
  simp only at hij hj he hk ⊢
  rw [r_slices_BinarySearchFunc__string_3 ts s ts.length i j Kn K]
  by_cases hlt : i < j
  · have hm : (i + j) / 2 < ts.length := by omega
    have hw : IntKind.i64.wrap ((IntKind.u64.wrap (IntKind.i64.wrap ((i : Int) + j))).fdiv (2 ^ 1)) = (((i + j) / 2 : Nat) : Int) := by
      rw [u64_i64 (by omega) (by omega), show ((2 : Int) ^ 1) = 2 from rfl, Int.fdiv_eq_ediv_of_nonneg _ (by decide), i64_of (by omega) (by omega)]
      omega
    simp only [hw, d_lt hlt, d_0, cond_true, Int.toNat_natCast, get_lt hm]
    rw [i64_of (n := (((i + j) / 2 : Nat) : Int) + 1) (by omega) (by omega)]
    have hc : cmpAt ts s ((i + j) / 2) = cmpB (ts[(i + j) / 2]'hm).1 s := by unfold cmpAt; rw [get_lt hm]
    rw [bsGo, if_pos hlt, hc] at he
    cases e : decide (cmpB (ts[(i + j) / 2]'hm).1 s < 0) with
    | true =>
      rw [e, if_pos rfl] at he
      exact hk ((i + j) / 2 + 1, j) ⟨by simp only; omega, hj, he⟩ (by simp only; omega)
    | false =>
      rw [e, if_neg (by decide)] at he
      exact hk (i, (i + j) / 2) ⟨by simp only; omega, by simp only; omega, he⟩ (by simp only; omega)
  · rw [bsGo, if_neg hlt] at he
    subst he
    simp only [d_nlt hlt, cond_false]
    unfold findB at h
    by_cases hl : findN ts s < ts.length
    · rw [d_t hl, Bool.true_and] at h
      simp only [d_lt hl, d_0, cond_true, Int.toNat_natCast, get_lt hl]
      have hc : cmpAt ts s (findN ts s) = cmpB (ts[findN ts s]'hl).1 s := by unfold cmpAt; rw [get_lt hl]
      rw [hc] at h
      rw [show ∀ (m n : Int), (m == n) = decide (m = n) from fun m n => by by_cases h : m = n <;> simp [h]]
      exact h
    · rw [d_f hl, Bool.false_and] at h
      simp only [d_nlt hl, cond_false]
      exact h

/-! impl.find -/
noncomputable def c_impl_find : Ctx := mkC Try.prog tyT [(35, s_slices_BinarySearchFunc__string), (36, s_impl_find_1)] [] [] 12 (fun _ => none) 0
theorem w_impl_find (ts : List ThingD) (s : Str) (K : V → Heap → Prop) : wpFn c_impl_find Try.f20 (encAs [.agg (.slice tT), .cell .str] (ts, s, ())) [] K =
  K (.tuple [(.int .i64 ((↑(findN ts s) : Int))), (.bool (findB ts s))]) [] := by kernel_rfl
noncomputable def s_impl_find : Sm := semT [.agg (.slice tT), .cell .str] fun x => match x with | (ts, s, _) => .tuple [.int .i64 (findN ts s), .bool (findB ts s)]
theorem ok_impl_find : FnOk Try.prog 20 s_impl_find := fnOk_typed (fnOk_runC (C := c_impl_find) rfl mixed (.cons ok_slices_BinarySearchFunc__string (.cons ok_impl_find_1 .nil)) .nil .nil Try.func20 (by kernel_rfl)) fun (x : ((List ThingD) × (Str) × Unit)) wf K h => by
  obtain ⟨ts, s, ⟨⟩⟩ := x
  replace h : K (.tuple [.int .i64 (findN ts s), .bool (findB ts s)]) [] := h
  rw [w_impl_find ts s K]
  exact h

/-! plain: the found place is the only one -/
--B idxT List ThingD → Str → Int
def idxT (ts : List ThingD) (s : Str) : Int := idxF (fun t => t.1 == s) ts
def Rising (ts : List ThingD) : Prop := ∀ j (h : j < ts.length), 0 < j → Op.bytesLess ((ts[j - 1]'(by omega)).1) ((ts[j]'h).1) = true
theorem rising_of {ts : List ThingD} (h : sceneB ts = true) : Rising ts := by
  unfold sceneB at h
  simp only [Bool.and_eq_true] at h
  intro j hj h0
  have := List.all_eq_true.1 h.1 j (by simpa using hj)
  rw [thingAt_eq hj] at this
  simp only [Bool.and_eq_true] at this
  have h2 := this.2
  rw [beq_eq_false_iff_ne.2 (show j ≠ 0 by omega), Bool.false_or, get_lt (show j - 1 < ts.length by omega)] at h2
  exact h2
theorem rising_lt {ts : List ThingD} (h : Rising ts) : ∀ (j i : Nat) (hj : j < ts.length) (hij : i < j), Op.bytesLess ((ts[i]'(by omega)).1) ((ts[j]'hj).1) = true
  | 0, i, hj, hij => by omega
  | j + 1, i, hj, hij => by
    have h1 := h (j + 1) hj (by omega)
    simp only [Nat.add_sub_cancel] at h1
    by_cases e : i = j
    · subst e; exact h1
    · exact less_trans (rising_lt h j i (by omega) (by omega)) h1
theorem bsGo_spec {p : Nat → Bool} {n : Nat} : ∀ (k i j : Nat), j - i ≤ k → i ≤ j → j ≤ n → (∀ a b, a ≤ b → b < n → p b = true → p a = true) →
    (∀ a, a < i → p a = true) → (∀ a, j ≤ a → a < n → p a = false) → bsGo p i j ≤ n ∧ (∀ a, a < bsGo p i j → p a = true) ∧ (∀ a, bsGo p i j ≤ a → a < n → p a = false)
  | 0, i, j, hk, hij, hj, mono, lo, hi => by
    rw [bsGo, if_neg (by omega)]
    exact ⟨by omega, lo, fun a h1 h2 => hi a (by omega) h2⟩
  | k + 1, i, j, hk, hij, hj, mono, lo, hi => by
    rw [bsGo]
    by_cases hlt : i < j
    · rw [if_pos hlt]
      by_cases hp : p ((i + j) / 2) = true
      · rw [if_pos hp]
        exact bsGo_spec k _ j (by omega) (by omega) hj mono (fun a ha => mono a ((i + j) / 2) (by omega) (by omega) hp) hi
      · rw [if_neg hp]
        refine bsGo_spec k i _ (by omega) (by omega) (by omega) mono lo fun a h1 h2 => ?_
        cases e : p a with
        | false => rfl
        | true => exact absurd (mono _ a h1 h2 e) hp
    · rw [if_neg hlt]
      exact ⟨by omega, lo, fun a h1 h2 => hi a (by omega) h2⟩
theorem find_cut {ts : List ThingD} (hr : Rising ts) (s : Str) :
    findN ts s ≤ ts.length ∧ (∀ a (ha : a < ts.length), a < findN ts s → Op.bytesLess (ts[a]'ha).1 s = true) ∧ (∀ a (ha : a < ts.length), findN ts s ≤ a → Op.bytesLess (ts[a]'ha).1 s = false) := by
  have hcl : ∀ a (ha : a < ts.length), decide (cmpAt ts s a < 0) = Op.bytesLess (ts[a]'ha).1 s := by
    intro a ha
    unfold cmpAt
    rw [get_lt ha]
    exact cmp_less _ _
  obtain ⟨b1, b2, b3⟩ := bsGo_spec (p := fun k => decide (cmpAt ts s k < 0)) (n := ts.length) ts.length 0 ts.length (by omega) (Nat.zero_le _) (Nat.le_refl _)
    (by
      intro a b hab hb hp
      replace hp : decide (cmpAt ts s b < 0) = true := hp
      show decide (cmpAt ts s a < 0) = true
      rw [hcl b hb] at hp
      rw [hcl a (by omega)]
      by_cases e : a = b
      · subst e; exact hp
      · exact less_trans (rising_lt hr b a hb (by omega)) hp)
    (fun a ha => by omega) (fun a h1 h2 => by omega)
  change findN ts s ≤ _ at b1
  have b2 : ∀ a, a < findN ts s → decide (cmpAt ts s a < 0) = true := b2
  have b3 : ∀ a, findN ts s ≤ a → a < ts.length → decide (cmpAt ts s a < 0) = false := b3
  exact ⟨b1, fun a ha hl => by rw [← hcl a ha]; exact b2 a hl, fun a ha hl => by rw [← hcl a ha]; exact b3 a hl ha⟩
theorem find_spec {ts : List ThingD} (h : sceneB ts = true) (s : Str) :
    (findB ts s = true → idxT ts s = findN ts s ∧ findN ts s < ts.length) ∧ (findB ts s = false → idxT ts s = -1) := by
  have hr := rising_of h
  have hcl : ∀ a (ha : a < ts.length), decide (cmpAt ts s a < 0) = Op.bytesLess (ts[a]'ha).1 s := by
    intro a ha
    unfold cmpAt
    rw [get_lt ha]
    exact cmp_less _ _
  obtain ⟨b1, b2, b3⟩ := bsGo_spec (p := fun k => decide (cmpAt ts s k < 0)) (n := ts.length) ts.length 0 ts.length (by omega) (Nat.zero_le _) (Nat.le_refl _)
    (by
      intro a b hab hb hp
      replace hp : decide (cmpAt ts s b < 0) = true := hp
      show decide (cmpAt ts s a < 0) = true
      rw [hcl b hb] at hp
      rw [hcl a (by omega)]
      by_cases e : a = b
      · subst e; exact hp
      · exact less_trans (rising_lt hr b a hb (by omega)) hp)
    (fun a ha => by omega) (fun a h1 h2 => by omega)
  change findN ts s ≤ _ at b1
  have b2 : ∀ a, a < findN ts s → decide (cmpAt ts s a < 0) = true := b2
  have b3 : ∀ a, findN ts s ≤ a → a < ts.length → decide (cmpAt ts s a < 0) = false := b3
  have low : ∀ a (ha : a < ts.length), a < findN ts s → ((ts[a]'ha).1 == s) = false := by
    intro a ha hlt
    have := b2 a hlt
    rw [hcl a ha] at this
    refine beq_eq_false_iff_ne.2 fun e => ?_
    rw [e, less_irrefl] at this
    cases this
  have hany : ∀ i, i ≤ findN ts s → i ≤ ts.length → (ts.take i).any (fun t => t.1 == s) = false := by
    intro i
    induction i with
    | zero => intro _ _; simp
    | succ i ih => intro h1 h2; exact any_snoc (f := fun t : ThingD => t.1 == s) (by omega) (ih (by omega) (by omega)) (low i (by omega) (by omega))
  refine ⟨fun e => ?_, fun e => ?_⟩
  · unfold findB at e
    simp only [Bool.and_eq_true, decide_eq_true_eq] at e
    refine ⟨idxF_hit e.1 (hany _ (Nat.le_refl _) b1) ?_, e.1⟩
    have := cmp_zero (ts[findN ts s]'e.1).1 s
    obtain ⟨e1, e2⟩ := e
    have hc : cmpAt ts s (findN ts s) = cmpB (ts[findN ts s]'e1).1 s := by unfold cmpAt; rw [get_lt e1]
    rw [hc] at e2
    rw [decide_eq_true e2] at this
    exact this.symm
  · refine idxF_none (List.any_eq_false.2 fun t ht => ?_)
    obtain ⟨a, ha, rfl⟩ := List.mem_iff_getElem.1 ht
    by_cases hlt : a < findN ts s
    · rw [low a ha hlt]; decide
    · have hfl : findN ts s < ts.length := by omega
      unfold findB at e
      rw [d_t hfl, Bool.true_and] at e
      have hc : cmpAt ts s (findN ts s) = cmpB (ts[findN ts s]'hfl).1 s := by unfold cmpAt; rw [get_lt hfl]
      have h3 := b3 _ (Nat.le_refl _) hfl
      rw [hc] at e h3
      have tri := cmp_tri _ _ (of_decide_eq_false h3) (of_decide_eq_false e)
      intro e'
      have e' : (ts[a]'ha).1 = s := by simpa using e'
      have : Op.bytesLess s (ts[a]'ha).1 = true := by
        by_cases e2 : a = findN ts s
        · subst e2; exact tri
        · exact less_trans tri (rising_lt hr a (findN ts s) ha (by omega))
      rw [e', less_irrefl] at this
      cases this

/-! impl.FindThing -/
noncomputable def c_impl_FindThing : Ctx := mkC Try.prog tyT [(20, s_impl_find), (11, s_impl_ValidScene)] [] [] 22 (fun _ => none) 0
theorem w_impl_FindThing (ts : List ThingD) (s : Str) (K : V → Heap → Prop) : wpFn c_impl_FindThing Try.f8 (encAs [.agg (.slice tT), .cell .str] (ts, s, ())) [] K =
  cond (!sceneB ts)
    (K (.tuple [(.int .i64 0), (.bool false)]) [])
    (cond (!findB ts s)
      (K (.tuple [(.int .i64 0), (.bool false)]) [])
      (K (.tuple [(.int .i64 ((↑(findN ts s) : Int))), (.bool true)]) [])) := by kernel_rfl
noncomputable def s_impl_FindThing : Sm := semT [.agg (.slice tT), .cell .str] fun x => match x with | (ts, s, _) => .tuple [.int .i64 (bif sceneB ts && findB ts s then findN ts s else 0), .bool (sceneB ts && findB ts s)]
theorem ok_impl_FindThing : FnOk Try.prog 8 s_impl_FindThing := fnOk_typed (fnOk_runC (C := c_impl_FindThing) rfl mixed (.cons ok_impl_find (.cons ok_impl_ValidScene .nil)) .nil .nil Try.func8 (by kernel_rfl)) fun (x : ((List ThingD) × (Str) × Unit)) wf K h => by
  obtain ⟨ts, s, ⟨⟩⟩ := x
  replace h : K (.tuple [.int .i64 (bif sceneB ts && findB ts s then findN ts s else 0), .bool (sceneB ts && findB ts s)]) [] := h
  rw [w_impl_FindThing ts s K]
  revert h
  cases sceneB ts <;> cases findB ts s <;> exact id




end Go.Proofs.Ytmkomfhnomnbiaa
