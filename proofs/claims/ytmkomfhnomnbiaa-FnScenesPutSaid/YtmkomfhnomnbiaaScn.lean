/- Valid scenes; a scene of copies. -/
import Derived.Test.YtmkomfhnomnbiaaOwn
import Derived.Test.YtmkomfhnomnbiaaDeepS
import Derived.Test.YtmkomfhnomnbiaaFind
set_option linter.unusedVariables false
set_option linter.unusedSimpArgs false
set_option maxRecDepth 100000
namespace Go.Proofs.Ytmkomfhnomnbiaa
open Go.Ev

/-! plain: valid scenes -/
theorem sceneB_iff {ts : List ThingD} : sceneB ts = true ↔ (∀ t ∈ ts, thingB t = true) ∧ ts.Pairwise (fun a b => Op.bytesLess a.1 b.1 = true) ∧ ts.length ≤ 8 := by
  constructor
  · intro h
    have hr := rising_of h
    unfold sceneB at h
    simp only [Bool.and_eq_true, decide_eq_true_eq] at h
    refine ⟨fun t ht => ?_, ?_, h.2⟩
    · obtain ⟨j, hj, rfl⟩ := List.mem_iff_getElem.1 ht
      have := List.all_eq_true.1 h.1 j (by simpa using hj)
      rw [thingAt_eq hj] at this
      simp only [Bool.and_eq_true] at this
      exact this.1
    · rw [List.pairwise_iff_getElem]
      intro i j hi hj hij
      exact rising_lt hr j i hj hij
  · rintro ⟨h1, h2, h3⟩
    unfold sceneB
    simp only [Bool.and_eq_true, decide_eq_true_eq]
    refine ⟨things_yes fun j hj => ?_, h3⟩
    rw [thingAt_eq hj, h1 _ (List.getElem_mem hj), Bool.true_and]
    by_cases h0 : j = 0
    · subst h0; rfl
    · rw [beq_eq_false_iff_ne.2 h0, Bool.false_or, get_lt (show j - 1 < ts.length by omega)]
      rw [List.pairwise_iff_getElem] at h2
      exact h2 (j - 1) j (by omega) hj (by omega)

theorem thingB_key1 {t : ThingD} (h : thingB t = true) : (!t.2.2.isEmpty) = true := by
  unfold thingB keysB at h
  simp only [Bool.and_eq_true] at h
  have := inR_iff.1 h.2.2.1
  cases e : t.2.2 with
  | nil => rw [e] at this; simp at this
  | cons _ _ => rfl
theorem fitC_part {ts us : List ThingD} (h : fitC ts = true) (hl : us.length ≤ ts.length) (hs : ∀ t ∈ us, t ∈ ts) : fitC us = true := by
  unfold fitC at *
  simp only [Bool.and_eq_true, decide_eq_true_eq] at *
  exact ⟨by omega, List.all_eq_true.2 fun t ht => List.all_eq_true.1 h.2 t (hs t ht)⟩

/-! impl.sceneOf -/
noncomputable def a_impl_sceneOf : Nat → Option Ann := fun n => bif Nat.beq n 3 then some ⟨[2,4,8,9,10],2,true⟩ else none
noncomputable def c_impl_sceneOf : Ctx := mkC Try.prog tyT [(11, s_impl_ValidScene)] [] [(33, s_impl_cloneThing)] 27 a_impl_sceneOf 0 false [] true
noncomputable def gp_impl_sceneOf : List (List (Option Ty)) := List.map giveR [.agg [.deep tT], .cell (.imm .bool)]
noncomputable def fr_impl_sceneOf_3 (ts zs : List ThingD) (n i m : Int) : Fr := [(2, .ptr 0 0), (4, .ptr 1 0), (8, .vec tT ts), (9, .int .i64 n), (10, .int .i64 i)]
noncomputable def hp_impl_sceneOf_3 (ts zs : List ThingD) (n i m : Int) : Heap := (match m with | 0 => [.box [.nils], .box [.nils]] | _ => [.box [.nils], .box [.dob 2 0], .dp 0 0 tT zs])
theorem r_impl_sceneOf_3_0 (ts zs : List ThingD) (n i : Int) (Kn : Fr → Heap → Prop) (K : V → Heap → Prop) : round c_impl_sceneOf ⟨[2,4,8,9,10],2,true⟩ (lb c_impl_sceneOf 3 Try.f17) (fr_impl_sceneOf_3 ts zs n i (0 : Int)) (hp_impl_sceneOf_3 ts zs n i (0 : Int)) Kn (lkG gp_impl_sceneOf c_impl_sceneOf 3 Try.f17 [] K) =
  cond (decide (i < n))
    (cond (decide (0 ≤ i))
      ((match ts[Int.toNat i]? with
        | some y0 => cond (fitT y0)
          (Kn [(2, (.ptr 0 0)), (4, (.ptr 1 0)), (8, (.vec tT (ts))), (9, (.int .i64 (n))), (10, (.int .i64 (IntKind.wrap IntKind.i64 (i + 1))))] [(.box [.nils]), (.box [(.dob 2 0)]), (.dp 0 0 tT ([y0]))])
          (False)
        | none => False))
      (False))
    (cond (!sceneB [])
      (K (.tuple [(.agg [(.dob 0 0)]), (.bool false)]) [(.dp 0 0 tT ([]))])
      (K (.tuple [(.agg [(.dob 0 0)]), (.bool true)]) [(.dp 0 0 tT ([]))])) := by kernel_rfl
theorem r_impl_sceneOf_3_1 (ts zs : List ThingD) (n i : Int) (Kn : Fr → Heap → Prop) (K : V → Heap → Prop) : round c_impl_sceneOf ⟨[2,4,8,9,10],2,true⟩ (lb c_impl_sceneOf 3 Try.f17) (fr_impl_sceneOf_3 ts zs n i (1 : Int)) (hp_impl_sceneOf_3 ts zs n i (1 : Int)) Kn (lkG gp_impl_sceneOf c_impl_sceneOf 3 Try.f17 [] K) =
  cond (decide (i < n))
    (cond (decide (0 ≤ i))
      ((match ts[Int.toNat i]? with
        | some y0 => cond (fitT y0)
          (cond (decide ((List.length zs + 1) * 64 ≤ 140737488355328))
            (Kn [(2, (.ptr 0 0)), (4, (.ptr 1 0)), (8, (.vec tT (ts))), (9, (.int .i64 (n))), (10, (.int .i64 (IntKind.wrap IntKind.i64 (i + 1))))] [(.box [.nils]), (.box [(.dob 2 0)]), (.dp 0 0 tT (zs ++ [y0]))])
            (False))
          (False)
        | none => False))
      (False))
    (cond (!sceneB zs)
      (K (.tuple [(.agg [(.dob 0 0)]), (.bool false)]) [(.dp 0 0 tT ([]))])
      (K (.tuple [(.agg [(.dob 0 0)]), (.bool true)]) [(.dp 0 0 tT (zs))])) := by kernel_rfl
theorem w_impl_sceneOf (ts : List ThingD) (K : V → Heap → Prop) : wpFnG gp_impl_sceneOf c_impl_sceneOf Try.f17 (encAs [.cell (.slice tT)] (ts, ())) [] K =
  LoopE c_impl_sceneOf ⟨[2, 4, 8, 9, 10], 2, true⟩ (lb c_impl_sceneOf 3 Try.f17) [(2, (.ptr 0 0)), (4, (.ptr 1 0)), (8, (.vec tT (ts))), (9, (.int .i64 ((↑(List.length ts) : Int)))), (10, (.int .i64 0))] [(.box [.nils]), (.box [.nils])] (lkG gp_impl_sceneOf c_impl_sceneOf 3 Try.f17 [] K) := by kernel_rfl
noncomputable def s_impl_sceneOf : Sm := semV [.cell (.slice tT)] [.agg [.deep tT], .cell (.imm .bool)] (fun x => match x with | (ts, _) => fitC ts) fun x => match x with | (ts, _) => (((bif sceneB ts then ts else []), ()), sceneB ts, ())
theorem ok_impl_sceneOf : FnOkL Try.prog 17 s_impl_sceneOf := fnOkO_give (fnOkO_runG (C := c_impl_sceneOf) gp_impl_sceneOf rfl mixed (.cons ok_impl_ValidScene .nil) .nil (.cons ok_impl_cloneThing .nil) Try.func17 (by kernel_rfl)) rfl fun (x : ((List ThingD) × Unit)) wf hg K h => by
  obtain ⟨ts, ⟨⟩⟩ := x
  replace hg : (fitC ts) = true := hg
  replace h : K (tup (valRs [.agg [.deep tT], .cell (.imm .bool)] ((((bif sceneB ts then ts else []), ()), sceneB ts, ())) 0)) (thRs [.agg [.deep tT], .cell (.imm .bool)] ((((bif sceneB ts then ts else []), ()), sceneB ts, ()))) := h
  rw [w_impl_sceneOf ts K]
  unfold fitC at hg
  simp only [Bool.and_eq_true, decide_eq_true_eq] at hg
  obtain ⟨g1, g2⟩ := hg
  refine loop_run (σ := Nat) (fun i => fr_impl_sceneOf_3 ts [] ts.length i 0) (fun i => match i with | 0 => hp_impl_sceneOf_3 ts [] ts.length 0 0 | j + 1 => hp_impl_sceneOf_3 ts (ts.take (j + 1)) ts.length 0 1) (fun i => i ≤ ts.length) (fun i => ts.length - i) ?_ 0 (Nat.zero_le _)
  intro i hi Kn hk
  cases i with
  | zero =>
    refine Eq.mpr (r_impl_sceneOf_3_0 ts [] ts.length ((0 : Nat) : Int) Kn K) ?_
    by_cases hlt : 0 < ts.length
    · have hf : fitT (ts[0]'hlt) = true := List.all_eq_true.1 g2 _ (List.getElem_mem hlt)
      simp only [d_lt hlt, d_0, cond_true, Int.toNat_natCast, get_lt hlt, hf]
      rw [i64_of (show -9223372036854775808 ≤ ((0 : Nat) : Int) + 1 by omega) (by omega)]
      have := hk 1 hlt (by omega)
      simp only [take_one hlt, List.take_zero, List.nil_append] at this
      exact this
    · have : ts = [] := List.eq_nil_of_length_eq_zero (by omega)
      subst this
      simp only [d_nlt hlt, cond_false]
      revert h
      cases sceneB [] <;> exact id
  | succ j =>
    refine Eq.mpr (r_impl_sceneOf_3_1 ts (ts.take (j + 1)) ts.length ((j + 1 : Nat) : Int) Kn K) ?_
    by_cases hlt : j + 1 < ts.length
    · have hf : fitT (ts[j + 1]'hlt) = true := List.all_eq_true.1 g2 _ (List.getElem_mem hlt)
      have hl : (ts.take (j + 1)).length = j + 1 := by rw [List.length_take]; omega
      simp only [d_lt hlt, d_0, cond_true, Int.toNat_natCast, get_lt hlt, hf, hl, d_t (show (j + 1 + 1) * 64 ≤ 140737488355328 by omega)]
      rw [i64_of (show -9223372036854775808 ≤ ((j + 1 : Nat) : Int) + 1 by omega) (by omega)]
      have := hk (j + 1 + 1) hlt (by omega)
      simp only [take_one hlt] at this
      exact this
    · have : j + 1 = ts.length := by omega
      simp only [d_nlt hlt, cond_false]
      rw [this, List.take_length]
      revert h
      cases sceneB ts <;> exact id

end Go.Proofs.Ytmkomfhnomnbiaa
