/- The laws of a thing that is put, and of scenes that are merged. -/
import Derived.Test.YtkppbbaibjhkaaaGreatPut
set_option linter.unusedVariables false
set_option linter.unusedSimpArgs false
set_option maxRecDepth 100000
namespace Go.Proofs.YtkppbbaibjhkaaaGreat
open Go.Ev

theorem putR_sum (ts : List ThingD) (t : ThingD) : sumW wT (putR ts t) ≤ 1600 := by
  unfold putR
  cases h : putOk ts t with
  | false => exact Nat.zero_le _
  | true =>
    unfold putOk at h
    simp only [Bool.and_eq_true] at h
    exact scene_sum h.2.2
theorem mergeR_sum (ts us : List ThingD) : sumW wT (mergeR ts us) ≤ 1600 := by
  unfold mergeR
  cases h : mergeOk ts us with
  | false => exact Nat.zero_le _
  | true =>
    unfold mergeOk at h
    simp only [Bool.and_eq_true] at h
    exact scene_sum h.2.2

/-! laws.FnExactPutThing -/
noncomputable def c_laws_FnExactPutThing : Ctx := mkC Tryz.prog tyT [(5, s_laws_szScene), (6, s_laws_szThing), (11, s_laws_eqScene), (12, s_laws_eqThing), (15, s_laws_heldScene)] [] [(8, s_laws_toScene_vg), (9, s_laws_toThing_vg), (7, s_spec_PutThing_vg), (10, s_impl_PutThing_vg), (13, s_laws_markScene), (14, s_laws_markThing)] 119 (fun _ => none) 0 false [(8, s_laws_toScene), (9, s_laws_toThing)] false true
theorem w_laws_FnExactPutThing (ts : List ThingD) (s : Str) (ns : ShapeD) (ks : List KeyD) (K : V → Heap → Prop) : wpFn c_laws_FnExactPutThing Tryz.f3 (encAs [.agg (.slice tT), .agg tT] (ts, (s, ns, ks), ())) [] K =
  cond (decide (szV 1048576 (wScene ts) < 0))
    (K (.bool true) [])
    (cond (decide (szV 1048576 (wScene ts) ≤ 1048576) && decide (0 ≤ szV 1048576 (wScene ts)))
      (cond (decide (szV (szV 1048576 (wScene ts)) (wThing (s, ns, ks)) < 0))
        (K (.bool true) [])
        (cond (fitC ts)
          (cond (fitT (s, ns, ks))
            (cond (decide (List.length ts ≤ 1048576) && List.all ts fitT)
              (cond (fitT (s, ns, ks))
                (cond (putR ts (s, ns, ks) == putR ts (s, ns, ks))
                  (cond (putOk ts (s, ns, ks) != putOk ts (s, ns, ks))
                    (K (.bool false) [])
                    (cond (fitC ts)
                      (cond (ts == ts)
                        (cond (fitT (s, ns, ks))
                          (cond ((s, ns, ks) == (s, ns, ks))
                            (cond (decide (0 ≤ 1) && decide (1 + (↑(sumW wT ts) : Int) ≤ 8388608))
                              (cond (decide (0 ≤ 1 + (↑(sumW wT ts) : Int)) && decide (1 + (↑(sumW wT ts) : Int) + (↑(sumW wN ns) : Int) + (↑(sumW wK ks) : Int) ≤ 8388608))
                                (cond (putR ts (s, ns, ks) == putR ts (s, ns, ks))
                                  (cond (putOk ts (s, ns, ks) != putOk ts (s, ns, ks))
                                    (K (.bool false) [])
                                    (cond (decide (0 ≤ 1) && decide (1 + (↑(sumW wT (putR ts (s, ns, ks))) : Int) ≤ 8388608))
                                      (cond (decide (0 ≤ 1) && (decide (1 + (↑(sumW wT (markL mkT wT 1 (putR ts (s, ns, ks)))) : Int) ≤ 8388608) && markL mkT wT 1 (putR ts (s, ns, ks)) == markL mkT wT 1 (markL mkT wT 1 (putR ts (s, ns, ks)))))
                                        (cond (1 + (↑(sumW wT (markL mkT wT 1 (putR ts (s, ns, ks)))) : Int) != 1 + (↑(sumW wT (putR ts (s, ns, ks))) : Int))
                                          (K (.bool false) [])
                                          (cond (fitC ts)
                                            (cond (fitT (s, ns, ks))
                                              (cond (putR ts (s, ns, ks) == putR ts (s, ns, ks))
                                                (cond (putOk ts (s, ns, ks) != putOk ts (s, ns, ks))
                                                  (K (.bool false) [])
                                                  (cond (decide (0 ≤ 1) && (decide (1 + (↑(sumW wT (markL mkT wT 1 (putR ts (s, ns, ks)))) : Int) ≤ 8388608) && markL mkT wT 1 (putR ts (s, ns, ks)) == markL mkT wT 1 (markL mkT wT 1 (putR ts (s, ns, ks)))))
                                                    (cond (1 + (↑(sumW wT (markL mkT wT 1 (putR ts (s, ns, ks)))) : Int) != 1 + (↑(sumW wT (putR ts (s, ns, ks))) : Int))
                                                      (K (.bool false) [])
                                                      (K (.bool true) []))
                                                    (False)))
                                                (False))
                                              (False))
                                            (False)))
                                        (False))
                                      (False)))
                                  (False))
                                (False))
                              (False))
                            (False))
                          (False))
                        (False))
                      (False)))
                  (False))
                (False))
              (False))
            (False))
          (False)))
      (False)) := by kernel_rfl
noncomputable def s_laws_FnExactPutThing : Sm := semT [.agg (.slice tT), .agg tT] fun x => match x with | (ts, (s, ns, ks), _) => .bool true
theorem ok_laws_FnExactPutThing : FnOk Tryz.prog 3 s_laws_FnExactPutThing := fnOk_typed (fnOk_runC (C := c_laws_FnExactPutThing) rfl mixed (.cons ok_laws_szScene (.cons ok_laws_szThing (.cons ok_laws_eqScene (.cons ok_laws_eqThing (.cons ok_laws_heldScene .nil))))) .nil (.cons ok_laws_toScene_vg (.cons ok_laws_toThing_vg (.cons ok_spec_PutThing_vg (.cons ok_impl_PutThing_vg (.cons ok_laws_markScene (.cons ok_laws_markThing .nil)))))) Tryz.func3 (by kernel_rfl) (.cons ok_laws_toScene (.cons ok_laws_toThing .nil))) fun (x : ((List ThingD) × ((Str) × (ShapeD) × (List KeyD)) × Unit)) wf K h => by
  obtain ⟨ts, ⟨s, ns, ks⟩, ⟨⟩⟩ := x
  replace h : K (.bool true) [] := h
  rw [w_laws_FnExactPutThing ts s ns ks K]
  by_cases hw : wScene ts + wThing (s, ns, ks) ≤ 1048576
  · have m1 := sumWT_le ts
    have m2 : sumW wN ns + sumW wK ks ≤ 4 * wThing (s, ns, ks) := by
      have h1 := sumWN_le ns
      rw [sumWK]
      show _ ≤ 4 * (s.length + wShape ns + ks.length)
      omega
    have m3 := putR_sum ts (s, ns, ks)
    have z : szV 1048576 (wScene ts) = 1048576 - (wScene ts : Int) := szV_ok (by omega)
    have z2 : szV (1048576 - (wScene ts : Int)) (wThing (s, ns, ks)) = 1048576 - (wScene ts : Int) - (wThing (s, ns, ks) : Int) := szV_ok (by omega)
    rw [z, z2]
    have hf : fitC ts = true := fitC_of (by omega)
    have hf2 : (decide (ts.length ≤ 1048576) && ts.all fitT) = true := hf
    have hft : fitT (s, ns, ks) = true := fitT_of (by omega)
    generalize putR ts (s, ns, ks) = R at *
    generalize putOk ts (s, ns, ks) = B at *
    simp only [d_f (show ¬ (1048576 - (wScene ts : Int) < 0) by omega), d_f (show ¬ (1048576 - (wScene ts : Int) - (wThing (s, ns, ks) : Int) < 0) by omega), d_t (show 1048576 - (wScene ts : Int) ≤ 1048576 by omega), d_t (show 0 ≤ 1048576 - (wScene ts : Int) by omega), hf, hf2, hft, markL_idem mkT_idem wT_mk, sumW_markL wT_mk, beq_self_eq_true, bne_self_eq_false, cond_true, cond_false,
      d_t (show (0 : Int) ≤ 1 by omega), d_t (show 0 ≤ 1 + (sumW wT ts : Int) by omega), d_t (show 1 + (sumW wT ts : Int) ≤ 8388608 by omega), d_t (show 1 + (sumW wT ts : Int) + (sumW wN ns : Int) + (sumW wK ks : Int) ≤ 8388608 by omega), d_t (show 1 + (sumW wT R : Int) ≤ 8388608 by omega), Bool.and_self, Bool.true_and]
    exact h
  · by_cases hw1 : wScene ts ≤ 1048576
    · have z : szV 1048576 (wScene ts) = 1048576 - (wScene ts : Int) := szV_ok (by omega)
      rw [z, szV_no (by omega)]
      simp only [d_f (show ¬ (1048576 - (wScene ts : Int) < 0) by omega), d_t (show 1048576 - (wScene ts : Int) ≤ 1048576 by omega), d_t (show 0 ≤ 1048576 - (wScene ts : Int) by omega), cond_false, cond_true, Bool.and_self]
      exact h
    · rw [szV_no (by omega)]
      exact h

/-! laws.FnExactMergeScenes -/
noncomputable def c_laws_FnExactMergeScenes : Ctx := mkC Tryz.prog tyT [(5, s_laws_szScene), (11, s_laws_eqScene), (15, s_laws_heldScene)] [] [(8, s_laws_toScene_vg), (16, s_spec_MergeScenes_vg), (17, s_impl_MergeScenes_vg), (13, s_laws_markScene)] 119 (fun _ => none) 0 false [(8, s_laws_toScene)] false true
theorem w_laws_FnExactMergeScenes (ts us : List ThingD) (K : V → Heap → Prop) : wpFn c_laws_FnExactMergeScenes Tryz.f4 (encAs [.agg (.slice tT), .agg (.slice tT)] (ts, us, ())) [] K =
  cond (decide (szV 1048576 (wScene ts) < 0))
    (K (.bool true) [])
    (cond (decide (szV 1048576 (wScene ts) ≤ 1048576) && decide (0 ≤ szV 1048576 (wScene ts)))
      (cond (decide (szV (szV 1048576 (wScene ts)) (wScene us) < 0))
        (K (.bool true) [])
        (cond (fitC ts)
          (cond (fitC us)
            (cond (decide (List.length ts ≤ 1048576) && List.all ts fitT)
              (cond (decide (List.length us ≤ 1048576) && List.all us fitT)
                (cond (mergeR ts us == mergeR ts us)
                  (cond (mergeOk ts us != mergeOk ts us)
                    (K (.bool false) [])
                    (cond (fitC ts)
                      (cond (ts == ts)
                        (cond (fitC us)
                          (cond (us == us)
                            (cond (decide (0 ≤ 1) && decide (1 + (↑(sumW wT ts) : Int) ≤ 8388608))
                              (cond (decide (0 ≤ 1 + (↑(sumW wT ts) : Int)) && decide (1 + (↑(sumW wT ts) : Int) + (↑(sumW wT us) : Int) ≤ 8388608))
                                (cond (mergeR ts us == mergeR ts us)
                                  (cond (mergeOk ts us != mergeOk ts us)
                                    (K (.bool false) [])
                                    (cond (decide (0 ≤ 1) && decide (1 + (↑(sumW wT (mergeR ts us)) : Int) ≤ 8388608))
                                      (cond (decide (0 ≤ 1) && (decide (1 + (↑(sumW wT (markL mkT wT 1 (mergeR ts us))) : Int) ≤ 8388608) && markL mkT wT 1 (mergeR ts us) == markL mkT wT 1 (markL mkT wT 1 (mergeR ts us))))
                                        (cond (1 + (↑(sumW wT (markL mkT wT 1 (mergeR ts us))) : Int) != 1 + (↑(sumW wT (mergeR ts us)) : Int))
                                          (K (.bool false) [])
                                          (cond (fitC ts)
                                            (cond (fitC us)
                                              (cond (mergeR ts us == mergeR ts us)
                                                (cond (mergeOk ts us != mergeOk ts us)
                                                  (K (.bool false) [])
                                                  (cond (decide (0 ≤ 1) && (decide (1 + (↑(sumW wT (markL mkT wT 1 (mergeR ts us))) : Int) ≤ 8388608) && markL mkT wT 1 (mergeR ts us) == markL mkT wT 1 (markL mkT wT 1 (mergeR ts us))))
                                                    (cond (1 + (↑(sumW wT (markL mkT wT 1 (mergeR ts us))) : Int) != 1 + (↑(sumW wT (mergeR ts us)) : Int))
                                                      (K (.bool false) [])
                                                      (K (.bool true) []))
                                                    (False)))
                                                (False))
                                              (False))
                                            (False)))
                                        (False))
                                      (False)))
                                  (False))
                                (False))
                              (False))
                            (False))
                          (False))
                        (False))
                      (False)))
                  (False))
                (False))
              (False))
            (False))
          (False)))
      (False)) := by kernel_rfl
noncomputable def s_laws_FnExactMergeScenes : Sm := semT [.agg (.slice tT), .agg (.slice tT)] fun x => match x with | (ts, us, _) => .bool true
theorem ok_laws_FnExactMergeScenes : FnOk Tryz.prog 4 s_laws_FnExactMergeScenes := fnOk_typed (fnOk_runC (C := c_laws_FnExactMergeScenes) rfl mixed (.cons ok_laws_szScene (.cons ok_laws_eqScene (.cons ok_laws_heldScene .nil))) .nil (.cons ok_laws_toScene_vg (.cons ok_spec_MergeScenes_vg (.cons ok_impl_MergeScenes_vg (.cons ok_laws_markScene .nil)))) Tryz.func4 (by kernel_rfl) (.cons ok_laws_toScene .nil)) fun (x : ((List ThingD) × (List ThingD) × Unit)) wf K h => by
  obtain ⟨ts, us, ⟨⟩⟩ := x
  replace h : K (.bool true) [] := h
  rw [w_laws_FnExactMergeScenes ts us K]
  by_cases hw : wScene ts + wScene us ≤ 1048576
  · have m1 := sumWT_le ts
    have m2 := sumWT_le us
    have m3 := mergeR_sum ts us
    have z : szV 1048576 (wScene ts) = 1048576 - (wScene ts : Int) := szV_ok (by omega)
    have z2 : szV (1048576 - (wScene ts : Int)) (wScene us) = 1048576 - (wScene ts : Int) - (wScene us : Int) := szV_ok (by omega)
    rw [z, z2]
    have hf : fitC ts = true := fitC_of (by omega)
    have hf2 : (decide (ts.length ≤ 1048576) && ts.all fitT) = true := hf
    have hft : fitC us = true := fitC_of (by omega)
    have hft2 : (decide (us.length ≤ 1048576) && us.all fitT) = true := hft
    generalize mergeR ts us = R at *
    generalize mergeOk ts us = B at *
    simp only [d_f (show ¬ (1048576 - (wScene ts : Int) < 0) by omega), d_f (show ¬ (1048576 - (wScene ts : Int) - (wScene us : Int) < 0) by omega), d_t (show 1048576 - (wScene ts : Int) ≤ 1048576 by omega), d_t (show 0 ≤ 1048576 - (wScene ts : Int) by omega), hf, hf2, hft, hft2, markL_idem mkT_idem wT_mk, sumW_markL wT_mk, beq_self_eq_true, bne_self_eq_false, cond_true, cond_false,
      d_t (show (0 : Int) ≤ 1 by omega), d_t (show 0 ≤ 1 + (sumW wT ts : Int) by omega), d_t (show 1 + (sumW wT ts : Int) ≤ 8388608 by omega), d_t (show 1 + (sumW wT ts : Int) + (sumW wT us : Int) ≤ 8388608 by omega), d_t (show 1 + (sumW wT R : Int) ≤ 8388608 by omega), Bool.and_self, Bool.true_and]
    exact h
  · by_cases hw1 : wScene ts ≤ 1048576
    · have z : szV 1048576 (wScene ts) = 1048576 - (wScene ts : Int) := szV_ok (by omega)
      rw [z, szV_no (by omega)]
      simp only [d_f (show ¬ (1048576 - (wScene ts : Int) < 0) by omega), d_t (show 1048576 - (wScene ts : Int) ≤ 1048576 by omega), d_t (show 0 ≤ 1048576 - (wScene ts : Int) by omega), cond_false, cond_true, Bool.and_self]
      exact h
    · rw [szV_no (by omega)]
      exact h

end Go.Proofs.YtkppbbaibjhkaaaGreat
