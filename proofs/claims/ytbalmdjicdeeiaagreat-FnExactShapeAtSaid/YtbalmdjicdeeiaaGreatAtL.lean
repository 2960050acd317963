/- The law of a shape of a scene at a time. -/
import Derived.Test.YtbalmdjicdeeiaaGreatAtI
set_option linter.unusedVariables false
set_option linter.unusedSimpArgs false
set_option maxRecDepth 100000
namespace Go.Proofs.YtbalmdjicdeeiaaGreat
open Go.Ev

theorem sum_le_mul {α : Type} {w : α → Nat} {m : Nat} : ∀ {xs : List α}, (∀ x ∈ xs, w x ≤ m) → sumW w xs ≤ m * xs.length
  | [], _ => Nat.zero_le _
  | x :: s, h => by
    have h1 := h x (by simp)
    have h2 := sum_le_mul (xs := s) fun y hy => h y (by simp [hy])
    simp only [sumW, List.map_cons, List.sum_cons, List.length_cons] at *
    rw [Nat.mul_add]
    omega
theorem valid_sum {s : ShapeD} (h : validS s = true) : sumW wN s ≤ 112 := by
  have h1 := sum_le_mul (w := wN) (m := 7) (xs := s) fun x hx => by have := valid_node h hx; unfold wN; omega
  have := valid_len h
  omega
theorem unionGo_valid : ∀ (r : List ShapeD) (u l : ShapeD), validS u = true → unionGo u r = some l → validS l = true
  | [], u, l, hu, h => by cases h; exact hu
  | v :: r, u, l, hu, h => by
    simp only [unionGo] at h
    cases hj : joinOk 5 u v [] with
    | false => rw [hj] at h; cases h
    | true =>
      rw [hj, cond_true] at h
      refine unionGo_valid r _ l ?_ h
      unfold joinOk at hj
      simp only [Bool.and_eq_true] at hj
      exact hj.2.2.2.2
theorem atO_valid {ts : List ThingD} {t : Int} {l : ShapeD} (h : atO ts t = some l) : validS l = true := by
  unfold atO at h
  cases hb : (sceneB ts && inR t 0 10000) with
  | false => rw [hb] at h; cases h
  | true =>
    rw [hb, cond_true] at h
    split at h
    · rename_i ll _
      cases ll with
      | nil => cases h
      | cons s r =>
        simp only [unionO] at h
        cases hc : (inR ((s :: r).length : Int) 1 16 && validS s) with
        | false => rw [hc] at h; cases h
        | true =>
          rw [hc, cond_true] at h
          simp only [Bool.and_eq_true] at hc
          exact unionGo_valid r s l hc.2 h
    · cases h
theorem atO_sum (ts : List ThingD) (t : Int) : sumW wN ((atO ts t).getD []) ≤ 112 := by
  cases h : atO ts t with
  | none => exact Nat.zero_le _
  | some l => exact valid_sum (atO_valid h)

/-! laws.FnExactShapeAt -/
noncomputable def c_laws_FnExactShapeAt : Ctx := mkC Tryz.prog tyT [(6, s_laws_szScene), (21, s_laws_eqShape), (12, s_laws_eqScene), (23, s_laws_heldShape)] [] [(9, s_laws_toScene_vg), (19, s_spec_ShapeAt_vg), (20, s_impl_ShapeAt_vg), (14, s_laws_markScene), (22, s_laws_markShape)] 101 (fun _ => none) 0 false [(9, s_laws_toScene)]
theorem w_laws_FnExactShapeAt (ts : List ThingD) (t : Int) (K : V → Heap → Prop) : wpFn c_laws_FnExactShapeAt Tryz.f5 (encAs [.agg (.slice tT), .cell tI] (ts, t, ())) [] K =
  cond (decide (szV 1048576 (wScene ts) < 0))
    (K (.bool true) [])
    (cond (decide (List.length ts ≤ 1048576) && List.all ts fitT)
      (cond (decide (List.length ts ≤ 1048576) && List.all ts fitT)
        (cond (Option.getD (atO ts t) [] == Option.getD (atO ts t) [])
          (cond (Option.isSome (atO ts t) != Option.isSome (atO ts t))
            (K (.bool false) [])
            (cond (fitC ts)
              (cond (ts == ts)
                (cond (decide (0 ≤ 1) && decide (1 + (↑(sumW wT ts) : Int) ≤ 8388608))
                  (cond (Option.getD (atO ts t) [] == Option.getD (atO ts t) [])
                    (cond (Option.isSome (atO ts t) != Option.isSome (atO ts t))
                      (K (.bool false) [])
                      (cond (decide (0 ≤ 1) && decide (1 + (↑(sumW wN (Option.getD (atO ts t) [])) : Int) ≤ 8388608))
                        (cond (decide (0 ≤ 1) && (decide (1 + (↑(sumW wN (markL mkN wN 1 (Option.getD (atO ts t) []))) : Int) ≤ 8388608) && markL mkN wN 1 (Option.getD (atO ts t) []) == markL mkN wN 1 (markL mkN wN 1 (Option.getD (atO ts t) []))))
                          (cond (1 + (↑(sumW wN (markL mkN wN 1 (Option.getD (atO ts t) []))) : Int) != 1 + (↑(sumW wN (Option.getD (atO ts t) [])) : Int))
                            (K (.bool false) [])
                            (cond (decide (List.length ts ≤ 1048576) && List.all ts fitT)
                              (cond (Option.getD (atO ts t) [] == Option.getD (atO ts t) [])
                                (cond (Option.isSome (atO ts t) != Option.isSome (atO ts t))
                                  (K (.bool false) [])
                                  (cond (decide (0 ≤ 1) && (decide (1 + (↑(sumW wN (markL mkN wN 1 (Option.getD (atO ts t) []))) : Int) ≤ 8388608) && markL mkN wN 1 (Option.getD (atO ts t) []) == markL mkN wN 1 (markL mkN wN 1 (Option.getD (atO ts t) []))))
                                    (cond (1 + (↑(sumW wN (markL mkN wN 1 (Option.getD (atO ts t) []))) : Int) != 1 + (↑(sumW wN (Option.getD (atO ts t) [])) : Int))
                                      (K (.bool false) [])
                                      (K (.bool true) []))
                                    (False)))
                                (False))
                              (False)))
                          (False))
                        (False)))
                    (False))
                  (False))
                (False))
              (False)))
          (False))
        (False))
      (False)) := by kernel_rfl
noncomputable def s_laws_FnExactShapeAt : Sm := semT [.agg (.slice tT), .cell tI] fun x => match x with | (ts, t, _) => .bool true
theorem ok_laws_FnExactShapeAt : FnOk Tryz.prog 5 s_laws_FnExactShapeAt := fnOk_typed (fnOk_runC (C := c_laws_FnExactShapeAt) rfl mixed (.cons ok_laws_szScene (.cons ok_laws_eqShape (.cons ok_laws_eqScene (.cons ok_laws_heldShape .nil)))) .nil (.cons ok_laws_toScene_vg (.cons ok_spec_ShapeAt_vg (.cons ok_impl_ShapeAt_vg (.cons ok_laws_markScene (.cons ok_laws_markShape .nil))))) Tryz.func5 (by kernel_rfl) (.cons ok_laws_toScene .nil)) fun (x : ((List ThingD) × (Int) × Unit)) wf K h => by
  obtain ⟨ts, t, ⟨⟩⟩ := x
  replace h : K (.bool true) [] := h
  rw [w_laws_FnExactShapeAt ts t K]
  by_cases hw : wScene ts ≤ 1048576
  · have m1 := markC_le hw
    have m2 := atO_sum ts t
    have z : szV 1048576 (wScene ts) = 1048576 - (wScene ts : Int) := szV_ok (by omega)
    rw [z]
    have hf := fitC_of hw
    have hf2 : (decide (ts.length ≤ 1048576) && ts.all fitT) = true := hf
    generalize (atO ts t).getD [] = R at *
    generalize (atO ts t).isSome = B at *
    simp only [d_f (show ¬ (1048576 - (wScene ts : Int) < 0) by omega), hf, hf2, markL_idem mkN_idem wN_mk, sumW_markL wN_mk, beq_self_eq_true, bne_self_eq_false, cond_true, cond_false,
      d_t (show (0 : Int) ≤ 1 by omega), d_t (show 1 + (sumW wT ts : Int) ≤ 8388608 by omega), d_t (show 1 + (sumW wN R : Int) ≤ 8388608 by omega), Bool.and_self, Bool.true_and]
    exact h
  · rw [szV_no (by omega)]
    exact h

end Go.Proofs.YtbalmdjicdeeiaaGreat
