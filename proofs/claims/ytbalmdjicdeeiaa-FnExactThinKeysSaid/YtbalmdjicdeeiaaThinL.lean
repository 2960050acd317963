/- The law of things without needless keys. -/
import Derived.Test.YtbalmdjicdeeiaaThin
set_option linter.unusedVariables false
set_option linter.unusedSimpArgs false
set_option maxRecDepth 100000
namespace Go.Proofs.Ytbalmdjicdeeiaa
open Go.Ev

theorem w_thinR (t : ThingD) : wThing (thinR t) ≤ wThing t := by
  unfold thinR
  cases thingB t with
  | false => exact Nat.zero_le _
  | true =>
    show wThing (t.1, t.2.1, thinL t.2.2) ≤ wThing t
    unfold wThing
    have : (thinL t.2.2).length ≤ t.2.2.length := by
      cases t.2.2 with
      | nil => exact Nat.le_refl _
      | cons k r => have := thinGo_len r [k]; simp only [thinL, List.length_cons, List.length_nil] at *; omega
    simp only
    omega

/-! laws.FnExactThinKeys -/
noncomputable def c_laws_FnExactThinKeys : Ctx := mkC Try.prog tyT [(21, s_laws_szThing), (26, s_laws_eqThing), (32, s_laws_heldThing)] [] [(23, s_laws_toThing_vg), (37, s_spec_ThinKeys_vg), (38, s_impl_ThinKeys_vg), (27, s_laws_markThing)] 96 (fun _ => none) 0 false [(23, s_laws_toThing)]
theorem w_laws_FnExactThinKeys (s : Str) (ns : ShapeD) (ks : List KeyD) (K : V → Heap → Prop) : wpFn c_laws_FnExactThinKeys Try.f10 (encAs [.agg tT] ((s, ns, ks), ())) [] K =
  cond (decide (szV 1048576 (wThing (s, ns, ks)) < 0))
    (K (.bool true) [])
    (cond (fitT (s, ns, ks))
      (cond (fitT (s, ns, ks))
        (cond (fitT (s, ns, ks))
          (cond (fitT (s, ns, ks))
            (cond (thinR (s, ns, ks) == thinR (s, ns, ks))
              (cond (thingB (s, ns, ks) != thingB (s, ns, ks))
                (K (.bool false) [])
                (cond (fitT (s, ns, ks))
                  (cond ((s, ns, ks) == (s, ns, ks))
                    (cond (decide (0 ≤ 1) && decide (1 + (↑(sumW wN ns) : Int) + (↑(sumW wK ks) : Int) ≤ 8388608))
                      (cond (thinR (s, ns, ks) == thinR (s, ns, ks))
                        (cond (thingB (s, ns, ks) != thingB (s, ns, ks))
                          (K (.bool false) [])
                          (cond (decide (0 ≤ 1) && decide (1 + (↑(sumW wN (Prod.fst (Prod.snd (thinR (s, ns, ks))))) : Int) + (↑(sumW wK (Prod.snd (Prod.snd (thinR (s, ns, ks))))) : Int) ≤ 8388608))
                            (cond (decide (0 ≤ 1) && (decide (1 + (↑(sumW wN (markL mkN wN 1 (Prod.fst (Prod.snd (thinR (s, ns, ks)))))) : Int) + (↑(sumW wK (markL mkK wK (1 + (↑(sumW wN (Prod.fst (Prod.snd (thinR (s, ns, ks))))) : Int)) (Prod.snd (Prod.snd (thinR (s, ns, ks)))))) : Int) ≤ 8388608) && (markL mkN wN 1 (Prod.fst (Prod.snd (thinR (s, ns, ks)))) == markL mkN wN 1 (markL mkN wN 1 (Prod.fst (Prod.snd (thinR (s, ns, ks))))) && markL mkK wK (1 + (↑(sumW wN (Prod.fst (Prod.snd (thinR (s, ns, ks))))) : Int)) (Prod.snd (Prod.snd (thinR (s, ns, ks)))) == markL mkK wK (1 + (↑(sumW wN (markL mkN wN 1 (Prod.fst (Prod.snd (thinR (s, ns, ks)))))) : Int)) (markL mkK wK (1 + (↑(sumW wN (Prod.fst (Prod.snd (thinR (s, ns, ks))))) : Int)) (Prod.snd (Prod.snd (thinR (s, ns, ks))))))))
                              (cond (1 + (↑(sumW wN (markL mkN wN 1 (Prod.fst (Prod.snd (thinR (s, ns, ks)))))) : Int) + (↑(sumW wK (markL mkK wK (1 + (↑(sumW wN (Prod.fst (Prod.snd (thinR (s, ns, ks))))) : Int)) (Prod.snd (Prod.snd (thinR (s, ns, ks)))))) : Int) != 1 + (↑(sumW wN (Prod.fst (Prod.snd (thinR (s, ns, ks))))) : Int) + (↑(sumW wK (Prod.snd (Prod.snd (thinR (s, ns, ks))))) : Int))
                                (K (.bool false) [])
                                (cond (fitT (s, ns, ks))
                                  (cond (fitT (s, ns, ks))
                                    (cond (thinR (s, ns, ks) == thinR (s, ns, ks))
                                      (cond (thingB (s, ns, ks) != thingB (s, ns, ks))
                                        (K (.bool false) [])
                                        (cond (decide (0 ≤ 1) && (decide (1 + (↑(sumW wN (markL mkN wN 1 (Prod.fst (Prod.snd (thinR (s, ns, ks)))))) : Int) + (↑(sumW wK (markL mkK wK (1 + (↑(sumW wN (Prod.fst (Prod.snd (thinR (s, ns, ks))))) : Int)) (Prod.snd (Prod.snd (thinR (s, ns, ks)))))) : Int) ≤ 8388608) && (markL mkN wN 1 (Prod.fst (Prod.snd (thinR (s, ns, ks)))) == markL mkN wN 1 (markL mkN wN 1 (Prod.fst (Prod.snd (thinR (s, ns, ks))))) && markL mkK wK (1 + (↑(sumW wN (Prod.fst (Prod.snd (thinR (s, ns, ks))))) : Int)) (Prod.snd (Prod.snd (thinR (s, ns, ks)))) == markL mkK wK (1 + (↑(sumW wN (markL mkN wN 1 (Prod.fst (Prod.snd (thinR (s, ns, ks)))))) : Int)) (markL mkK wK (1 + (↑(sumW wN (Prod.fst (Prod.snd (thinR (s, ns, ks))))) : Int)) (Prod.snd (Prod.snd (thinR (s, ns, ks))))))))
                                          (cond (1 + (↑(sumW wN (markL mkN wN 1 (Prod.fst (Prod.snd (thinR (s, ns, ks)))))) : Int) + (↑(sumW wK (markL mkK wK (1 + (↑(sumW wN (Prod.fst (Prod.snd (thinR (s, ns, ks))))) : Int)) (Prod.snd (Prod.snd (thinR (s, ns, ks)))))) : Int) != 1 + (↑(sumW wN (Prod.fst (Prod.snd (thinR (s, ns, ks))))) : Int) + (↑(sumW wK (Prod.snd (Prod.snd (thinR (s, ns, ks))))) : Int))
                                            (K (.bool false) [])
                                            (K (.bool true) []))
                                          (False)))
                                      (False))
                                    (False))
                                  (False)))
                              (False))
                            (False)))
                        (False))
                      (False))
                    (False))
                  (False)))
              (False))
            (False))
          (False))
        (False))
      (False)) := by kernel_rfl
noncomputable def s_laws_FnExactThinKeys : Sm := semT [.agg tT] fun x => match x with | ((s, ns, ks), _) => .bool true
theorem ok_laws_FnExactThinKeys : FnOk Try.prog 10 s_laws_FnExactThinKeys := fnOk_typed (fnOk_runC (C := c_laws_FnExactThinKeys) rfl mixed (.cons ok_laws_szThing (.cons ok_laws_eqThing (.cons ok_laws_heldThing .nil))) .nil (.cons ok_laws_toThing_vg (.cons ok_spec_ThinKeys_vg (.cons ok_impl_ThinKeys_vg (.cons ok_laws_markThing .nil)))) Try.func10 (by kernel_rfl) (.cons ok_laws_toThing .nil)) fun (x : (((Str) × (ShapeD) × (List KeyD)) × Unit)) wf K h => by
  obtain ⟨⟨s, ns, ks⟩, ⟨⟩⟩ := x
  replace h : K (.bool true) [] := h
  rw [w_laws_FnExactThinKeys s ns ks K]
  by_cases hw : wThing (s, ns, ks) ≤ 1048576
  · have hw2 : wThing (thinR (s, ns, ks)) ≤ 1048576 := Nat.le_trans (w_thinR _) hw
    have m1 := markT_le hw
    have m2 := markT_le hw2
    simp only at m1
    have z : szV 1048576 (wThing (s, ns, ks)) = 1048576 - (wThing (s, ns, ks) : Int) := szV_ok (by omega)
    rw [z]
    generalize thinR (s, ns, ks) = R at *
    simp only [d_f (show ¬ (1048576 - (wThing (s, ns, ks) : Int) < 0) by omega), fitT_of hw, markL_idem mkN_idem wN_mk, markL_idem mkK_idem wK_mk, sumW_markL wN_mk, sumW_markL wK_mk, beq_self_eq_true, bne_self_eq_false, cond_true, cond_false,
      d_t (show (0 : Int) ≤ 1 by omega), d_t (show 1 + (sumW wN ns : Int) + (sumW wK ks : Int) ≤ 8388608 by omega), d_t (show 1 + (sumW wN R.2.1 : Int) + (sumW wK R.2.2 : Int) ≤ 8388608 by omega), Bool.and_self, Bool.true_and]
    exact h
  · rw [szV_no (by omega)]
    exact h

end Go.Proofs.Ytbalmdjicdeeiaa
