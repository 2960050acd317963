/- The law of keys that come later. -/
import Derived.Test.YtbalmdjicdeeiaaLater
set_option linter.unusedVariables false
set_option linter.unusedSimpArgs false
set_option maxRecDepth 100000
namespace Go.Proofs.Ytbalmdjicdeeiaa
open Go.Ev

theorem w_laterR (t : ThingD) (d : Int) : wThing (laterR t d) ≤ wThing t := by
  unfold laterR
  cases laterOk t d with
  | false => exact Nat.zero_le _
  | true =>
    show wThing (laterT t d) ≤ wThing t
    unfold wThing laterT
    simp

/-! laws.FnExactLaterKeys -/
noncomputable def c_laws_FnExactLaterKeys : Ctx := mkC Try.prog tyT [(21, s_laws_szThing), (26, s_laws_eqThing), (32, s_laws_heldThing)] [] [(23, s_laws_toThing_vg), (30, s_spec_LaterKeys_vg), (31, s_impl_LaterKeys_vg), (27, s_laws_markThing)] 101 (fun _ => none) 0 false [(23, s_laws_toThing)]
theorem w_laws_FnExactLaterKeys (s : Str) (ns : ShapeD) (ks : List KeyD) (d : Int) (K : V → Heap → Prop) : wpFn c_laws_FnExactLaterKeys Try.f7 (encAs [.agg tT, .cell tI] ((s, ns, ks), d, ())) [] K =
  cond (decide (szV 1048576 (wThing (s, ns, ks)) < 0))
    (K (.bool true) [])
    (cond (fitT (s, ns, ks))
      (cond (fitT (s, ns, ks))
        (cond (fitT (s, ns, ks))
          (cond (fitT (s, ns, ks))
            (cond (laterR (s, ns, ks) d == laterR (s, ns, ks) d)
              (cond (laterOk (s, ns, ks) d != laterOk (s, ns, ks) d)
                (K (.bool false) [])
                (cond (fitT (s, ns, ks))
                  (cond ((s, ns, ks) == (s, ns, ks))
                    (cond (decide (0 ≤ 1) && decide (1 + (↑(sumW wN ns) : Int) + (↑(sumW wK ks) : Int) ≤ 8388608))
                      (cond (laterR (s, ns, ks) d == laterR (s, ns, ks) d)
                        (cond (laterOk (s, ns, ks) d != laterOk (s, ns, ks) d)
                          (K (.bool false) [])
                          (cond (decide (0 ≤ 1) && decide (1 + (↑(sumW wN (Prod.fst (Prod.snd (laterR (s, ns, ks) d)))) : Int) + (↑(sumW wK (Prod.snd (Prod.snd (laterR (s, ns, ks) d)))) : Int) ≤ 8388608))
                            (cond (decide (0 ≤ 1) && (decide (1 + (↑(sumW wN (markL mkN wN 1 (Prod.fst (Prod.snd (laterR (s, ns, ks) d))))) : Int) + (↑(sumW wK (markL mkK wK (1 + (↑(sumW wN (Prod.fst (Prod.snd (laterR (s, ns, ks) d)))) : Int)) (Prod.snd (Prod.snd (laterR (s, ns, ks) d))))) : Int) ≤ 8388608) && (markL mkN wN 1 (Prod.fst (Prod.snd (laterR (s, ns, ks) d))) == markL mkN wN 1 (markL mkN wN 1 (Prod.fst (Prod.snd (laterR (s, ns, ks) d)))) && markL mkK wK (1 + (↑(sumW wN (Prod.fst (Prod.snd (laterR (s, ns, ks) d)))) : Int)) (Prod.snd (Prod.snd (laterR (s, ns, ks) d))) == markL mkK wK (1 + (↑(sumW wN (markL mkN wN 1 (Prod.fst (Prod.snd (laterR (s, ns, ks) d))))) : Int)) (markL mkK wK (1 + (↑(sumW wN (Prod.fst (Prod.snd (laterR (s, ns, ks) d)))) : Int)) (Prod.snd (Prod.snd (laterR (s, ns, ks) d)))))))
                              (cond (1 + (↑(sumW wN (markL mkN wN 1 (Prod.fst (Prod.snd (laterR (s, ns, ks) d))))) : Int) + (↑(sumW wK (markL mkK wK (1 + (↑(sumW wN (Prod.fst (Prod.snd (laterR (s, ns, ks) d)))) : Int)) (Prod.snd (Prod.snd (laterR (s, ns, ks) d))))) : Int) != 1 + (↑(sumW wN (Prod.fst (Prod.snd (laterR (s, ns, ks) d)))) : Int) + (↑(sumW wK (Prod.snd (Prod.snd (laterR (s, ns, ks) d)))) : Int))
                                (K (.bool false) [])
                                (cond (fitT (s, ns, ks))
                                  (cond (fitT (s, ns, ks))
                                    (cond (laterR (s, ns, ks) d == laterR (s, ns, ks) d)
                                      (cond (laterOk (s, ns, ks) d != laterOk (s, ns, ks) d)
                                        (K (.bool false) [])
                                        (cond (decide (0 ≤ 1) && (decide (1 + (↑(sumW wN (markL mkN wN 1 (Prod.fst (Prod.snd (laterR (s, ns, ks) d))))) : Int) + (↑(sumW wK (markL mkK wK (1 + (↑(sumW wN (Prod.fst (Prod.snd (laterR (s, ns, ks) d)))) : Int)) (Prod.snd (Prod.snd (laterR (s, ns, ks) d))))) : Int) ≤ 8388608) && (markL mkN wN 1 (Prod.fst (Prod.snd (laterR (s, ns, ks) d))) == markL mkN wN 1 (markL mkN wN 1 (Prod.fst (Prod.snd (laterR (s, ns, ks) d)))) && markL mkK wK (1 + (↑(sumW wN (Prod.fst (Prod.snd (laterR (s, ns, ks) d)))) : Int)) (Prod.snd (Prod.snd (laterR (s, ns, ks) d))) == markL mkK wK (1 + (↑(sumW wN (markL mkN wN 1 (Prod.fst (Prod.snd (laterR (s, ns, ks) d))))) : Int)) (markL mkK wK (1 + (↑(sumW wN (Prod.fst (Prod.snd (laterR (s, ns, ks) d)))) : Int)) (Prod.snd (Prod.snd (laterR (s, ns, ks) d)))))))
                                          (cond (1 + (↑(sumW wN (markL mkN wN 1 (Prod.fst (Prod.snd (laterR (s, ns, ks) d))))) : Int) + (↑(sumW wK (markL mkK wK (1 + (↑(sumW wN (Prod.fst (Prod.snd (laterR (s, ns, ks) d)))) : Int)) (Prod.snd (Prod.snd (laterR (s, ns, ks) d))))) : Int) != 1 + (↑(sumW wN (Prod.fst (Prod.snd (laterR (s, ns, ks) d)))) : Int) + (↑(sumW wK (Prod.snd (Prod.snd (laterR (s, ns, ks) d)))) : Int))
                                            (K (.bool false) [])
                                            (K (.bool true) []))
                                          (False)))
                                      (False))
                                    (False))
                                  (False)))
                              (False))
                            (False)))
                        (False))
                      (False))
                    (False))
                  (False)))
              (False))
            (False))
          (False))
        (False))
      (False)) := by kernel_rfl
noncomputable def s_laws_FnExactLaterKeys : Sm := semT [.agg tT, .cell tI] fun x => match x with | ((s, ns, ks), d, _) => .bool true
theorem ok_laws_FnExactLaterKeys : FnOk Try.prog 7 s_laws_FnExactLaterKeys := fnOk_typed (fnOk_runC (C := c_laws_FnExactLaterKeys) rfl mixed (.cons ok_laws_szThing (.cons ok_laws_eqThing (.cons ok_laws_heldThing .nil))) .nil (.cons ok_laws_toThing_vg (.cons ok_spec_LaterKeys_vg (.cons ok_impl_LaterKeys_vg (.cons ok_laws_markThing .nil)))) Try.func7 (by kernel_rfl) (.cons ok_laws_toThing .nil)) fun (x : (((Str) × (ShapeD) × (List KeyD)) × (Int) × Unit)) wf K h => by
  obtain ⟨⟨s, ns, ks⟩, d, ⟨⟩⟩ := x
  replace h : K (.bool true) [] := h
  rw [w_laws_FnExactLaterKeys s ns ks d K]
  by_cases hw : wThing (s, ns, ks) ≤ 1048576
  · have hw2 : wThing (laterR (s, ns, ks) d) ≤ 1048576 := Nat.le_trans (w_laterR _ _) hw
    have m1 := markT_le hw
    have m2 := markT_le hw2
    simp only at m1
    have z : szV 1048576 (wThing (s, ns, ks)) = 1048576 - (wThing (s, ns, ks) : Int) := szV_ok (by omega)
    rw [z]
    generalize laterR (s, ns, ks) d = R at *
    simp only [d_f (show ¬ (1048576 - (wThing (s, ns, ks) : Int) < 0) by omega), fitT_of hw, markL_idem mkN_idem wN_mk, markL_idem mkK_idem wK_mk, sumW_markL wN_mk, sumW_markL wK_mk, beq_self_eq_true, bne_self_eq_false, cond_true, cond_false,
      d_t (show (0 : Int) ≤ 1 by omega), d_t (show 1 + (sumW wN ns : Int) + (sumW wK ks : Int) ≤ 8388608 by omega), d_t (show 1 + (sumW wN R.2.1 : Int) + (sumW wK R.2.2 : Int) ≤ 8388608 by omega), Bool.and_self, Bool.true_and]
    exact h
  · rw [szV_no (by omega)]
    exact h

end Go.Proofs.Ytbalmdjicdeeiaa
