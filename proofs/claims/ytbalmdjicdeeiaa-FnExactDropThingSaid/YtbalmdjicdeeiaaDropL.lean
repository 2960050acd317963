/- The law of a scene without a thing. -/
import Derived.Test.YtbalmdjicdeeiaaDrop
set_option linter.unusedVariables false
set_option linter.unusedSimpArgs false
set_option maxRecDepth 100000
namespace Go.Proofs.Ytbalmdjicdeeiaa
open Go.Ev

theorem wList_filter {α : Type} (w : α → Nat) (p : α → Bool) : ∀ xs : List α, wList w (xs.filter p) ≤ wList w xs
  | [] => Nat.le_refl _
  | x :: s => by
    have := wList_filter w p s
    rw [List.filter_cons]
    have e : wList w (x :: s) = wList w s + 1 + w x := by simp [wList]; omega
    split
    · have e2 : wList w (x :: s.filter p) = wList w (s.filter p) + 1 + w x := by simp [wList]; omega
      omega
    · omega
theorem w_dropR (ts : List ThingD) (nm : Str) : wScene (dropR ts nm) ≤ wScene ts := by
  unfold dropR
  cases dropOk ts nm with
  | false => exact Nat.zero_le _
  | true => exact wList_filter wThing _ ts

/-! laws.FnExactDropThing -/
noncomputable def c_laws_FnExactDropThing : Ctx := mkC Try.prog tyT [(12, s_laws_szScene), (16, s_laws_eqScene), (42, s_laws_heldScene)] [] [(14, s_laws_toScene_vg), (39, s_spec_DropThing_vg), (40, s_impl_DropThing_vg), (41, s_laws_markScene)] 104 (fun _ => none) 0 false [(14, s_laws_toScene)]
theorem w_laws_FnExactDropThing (ts : List ThingD) (nm : Str) (K : V → Heap → Prop) : wpFn c_laws_FnExactDropThing Try.f11 (encAs [.agg (.slice tT), .cell .str] (ts, nm, ())) [] K =
  cond (decide ((↑(List.length nm) : Int) > 1048576))
    (K (.bool true) [])
    (cond (decide (szV 1048576 (wScene ts) < 0))
      (K (.bool true) [])
      (cond (decide (List.length ts ≤ 1048576) && List.all ts fitT)
        (cond (fitC ts)
          (cond (decide (List.length ts ≤ 1048576) && List.all ts fitT)
            (cond (fitC ts)
              (cond (dropR ts nm == dropR ts nm)
                (cond (dropOk ts nm != dropOk ts nm)
                  (K (.bool false) [])
                  (cond (fitC ts)
                    (cond (ts == ts)
                      (cond (decide (0 ≤ 1) && decide (1 + (↑(sumW wT ts) : Int) ≤ 8388608))
                        (cond (dropR ts nm == dropR ts nm)
                          (cond (dropOk ts nm != dropOk ts nm)
                            (K (.bool false) [])
                            (cond (decide (0 ≤ 1) && decide (1 + (↑(sumW wT (dropR ts nm)) : Int) ≤ 8388608))
                              (cond (decide (0 ≤ 1) && (decide (1 + (↑(sumW wT (markL mkT wT 1 (dropR ts nm))) : Int) ≤ 8388608) && markL mkT wT 1 (dropR ts nm) == markL mkT wT 1 (markL mkT wT 1 (dropR ts nm))))
                                (cond (1 + (↑(sumW wT (markL mkT wT 1 (dropR ts nm))) : Int) != 1 + (↑(sumW wT (dropR ts nm)) : Int))
                                  (K (.bool false) [])
                                  (cond (decide (List.length ts ≤ 1048576) && List.all ts fitT)
                                    (cond (fitC ts)
                                      (cond (dropR ts nm == dropR ts nm)
                                        (cond (dropOk ts nm != dropOk ts nm)
                                          (K (.bool false) [])
                                          (cond (decide (0 ≤ 1) && (decide (1 + (↑(sumW wT (markL mkT wT 1 (dropR ts nm))) : Int) ≤ 8388608) && markL mkT wT 1 (dropR ts nm) == markL mkT wT 1 (markL mkT wT 1 (dropR ts nm))))
                                            (cond (1 + (↑(sumW wT (markL mkT wT 1 (dropR ts nm))) : Int) != 1 + (↑(sumW wT (dropR ts nm)) : Int))
                                              (K (.bool false) [])
                                              (K (.bool true) []))
                                            (False)))
                                        (False))
                                      (False))
                                    (False)))
                                (False))
                              (False)))
                          (False))
                        (False))
                      (False))
                    (False)))
                (False))
              (False))
            (False))
          (False))
        (False))) := by kernel_rfl
noncomputable def s_laws_FnExactDropThing : Sm := semT [.agg (.slice tT), .cell .str] fun x => match x with | (ts, nm, _) => .bool true
theorem ok_laws_FnExactDropThing : FnOk Try.prog 11 s_laws_FnExactDropThing := fnOk_typed (fnOk_runC (C := c_laws_FnExactDropThing) rfl mixed (.cons ok_laws_szScene (.cons ok_laws_eqScene (.cons ok_laws_heldScene .nil))) .nil (.cons ok_laws_toScene_vg (.cons ok_spec_DropThing_vg (.cons ok_impl_DropThing_vg (.cons ok_laws_markScene .nil)))) Try.func11 (by kernel_rfl) (.cons ok_laws_toScene .nil)) fun (x : ((List ThingD) × (Str) × Unit)) wf K h => by
  obtain ⟨ts, nm, ⟨⟩⟩ := x
  replace h : K (.bool true) [] := h
  rw [w_laws_FnExactDropThing ts nm K]
  cases hn : decide ((nm.length : Int) > 1048576) with
  | true => simp only [cond_true]; exact h
  | false =>
  simp only [cond_false]
  by_cases hw : wScene ts ≤ 1048576
  · have hw2 : wScene (dropR ts nm) ≤ 1048576 := Nat.le_trans (w_dropR ts nm) hw
    have m1 := markC_le hw
    have m2 := markC_le hw2
    have z : szV 1048576 (wScene ts) = 1048576 - (wScene ts : Int) := szV_ok (by omega)
    rw [z]
    have hf := fitC_of hw
    have hf2 : (decide (ts.length ≤ 1048576) && ts.all fitT) = true := hf
    generalize dropR ts nm = R at *
    generalize dropOk ts nm = B at *
    simp only [d_f (show ¬ (1048576 - (wScene ts : Int) < 0) by omega), hf, hf2, markL_idem mkT_idem wT_mk, sumW_markL wT_mk, beq_self_eq_true, bne_self_eq_false, cond_true, cond_false,
      d_t (show (0 : Int) ≤ 1 by omega), d_t (show 1 + (sumW wT ts : Int) ≤ 8388608 by omega), d_t (show 1 + (sumW wT R : Int) ≤ 8388608 by omega), Bool.and_self, Bool.true_and]
    exact h
  · rw [szV_no (by omega)]
    exact h

end Go.Proofs.Ytbalmdjicdeeiaa
