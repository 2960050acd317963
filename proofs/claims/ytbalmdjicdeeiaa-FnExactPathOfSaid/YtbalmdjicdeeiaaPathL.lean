/- Vectors that are marked; the law of paths. -/
import Derived.Test.YtbalmdjicdeeiaaPath
set_option linter.unusedVariables false
set_option linter.unusedSimpArgs false
set_option maxRecDepth 100000
namespace Go.Proofs.Ytbalmdjicdeeiaa
open Go.Ev

--B mkV Int → V3 → V3
def mkV (k : Int) (_ : V3) : V3 := (FloatKind.f32.nearest k, FloatKind.f32.nearest (k + 1), FloatKind.f32.nearest (k + 2))
--B wV V3 → Nat
def wV (_ : V3) : Nat := 3
theorem wV_pos (x : V3) : 1 ≤ wV x := by unfold wV; omega
theorem mkV_idem (k : Int) (x : V3) : mkV k (mkV k x) = mkV k x := rfl
theorem wV_mk (k : Int) (x : V3) : wV (mkV k x) = wV x := rfl
theorem sumWV (ks : List V3) : sumW wV ks = 3 * ks.length := by
  induction ks with
  | nil => rfl
  | cons x s ih => simp only [sumW, List.map_cons, List.sum_cons, List.length_cons] at *; rw [ih]; unfold wV; omega

/-! laws.markVectorS -/
noncomputable def a_laws_markVectorS : Nat → Option Ann := fun n => bif Nat.beq n 2 then some ⟨[0,1,5],1,false⟩ else none
noncomputable def c_laws_markVectorS : Ctx := mkC Try.prog tyT [] [] [] 37 a_laws_markVectorS 1
noncomputable def fr_laws_markVectorS_2 (xs : List V3) (k i : Int) : Fr := [(0, .obj 0 0), (1, .int .i64 k), (5, .int .i64 i)]
noncomputable def hp_laws_markVectorS_2 (xs : List V3) (k i : Int) : Heap := [.sl 0 tV xs]
theorem r_laws_markVectorS_2 (xs : List V3) (k i : Int) (Kn : Fr → Heap → Prop) (K : V → Heap → Prop) : round c_laws_markVectorS ⟨[0,1,5],1,false⟩ (lb c_laws_markVectorS 2 Try.f28) (fr_laws_markVectorS_2 xs k i) (hp_laws_markVectorS_2 xs k i) Kn (lkO c_laws_markVectorS 2 Try.f28 [.box []] K) =
  cond (decide (i < (↑(List.length xs) : Int)))
    (cond (decide (0 ≤ i) && Nat.blt (Int.toNat i) (List.length xs))
      ((match xs[Int.toNat i]? with
        | some x0 => cond (decide (0 ≤ i) && Nat.blt (Int.toNat i) (List.length (List.set xs (Int.toNat i) (FloatKind.nearest FloatKind.f32 k, Prod.snd x0))))
          ((match (List.set xs (Int.toNat i) (FloatKind.nearest FloatKind.f32 k, Prod.snd x0))[Int.toNat i]? with
            | some x1 => cond (decide (0 ≤ i) && Nat.blt (Int.toNat i) (List.length (List.set (List.set xs (Int.toNat i) (FloatKind.nearest FloatKind.f32 k, Prod.snd x0)) (Int.toNat i) (Prod.fst x1, FloatKind.nearest FloatKind.f32 (IntKind.wrap IntKind.i64 (k + 1)), Prod.snd (Prod.snd x1)))))
              ((match (List.set (List.set xs (Int.toNat i) (FloatKind.nearest FloatKind.f32 k, Prod.snd x0)) (Int.toNat i) (Prod.fst x1, FloatKind.nearest FloatKind.f32 (IntKind.wrap IntKind.i64 (k + 1)), Prod.snd (Prod.snd x1)))[Int.toNat i]? with
                | some x2 => Kn [(0, (.obj 0 0)), (1, (.int .i64 (IntKind.wrap IntKind.i64 (IntKind.wrap IntKind.i64 (IntKind.wrap IntKind.i64 (k + 1) + 1) + 1)))), (5, (.int .i64 (IntKind.wrap IntKind.i64 (i + 1))))] [(.sl 0 (.pair (.float .f32) (.pair (.float .f32) (.float .f32))) (List.set (List.set (List.set xs (Int.toNat i) (FloatKind.nearest FloatKind.f32 k, Prod.snd x0)) (Int.toNat i) (Prod.fst x1, FloatKind.nearest FloatKind.f32 (IntKind.wrap IntKind.i64 (k + 1)), Prod.snd (Prod.snd x1))) (Int.toNat i) (Prod.fst x2, Prod.fst (Prod.snd x2), FloatKind.nearest FloatKind.f32 (IntKind.wrap IntKind.i64 (IntKind.wrap IntKind.i64 (k + 1) + 1)))))]
                | none => False))
              (False)
            | none => False))
          (False)
        | none => False))
      (False))
    (K (.int .i64 (k)) [(.sl 0 (.pair (.float .f32) (.pair (.float .f32) (.float .f32))) (xs))]) := by kernel_rfl
theorem w_laws_markVectorS (xs : List V3) (k : Int) (K : V → Heap → Prop) : wpFnO c_laws_markVectorS Try.f28 (ofCells false [.obj 0 0] :: encAs [.cell tI] (k, ())) [.sl 0 tV xs] K =
  LoopE c_laws_markVectorS ⟨[0, 1, 5], 1, false⟩ (lb c_laws_markVectorS 2 Try.f28) [(0, (.obj 0 0)), (1, (.int .i64 (k))), (5, (.int .i64 0))] [(.sl 0 (.pair (.float .f32) (.pair (.float .f32) (.float .f32))) (xs))] (lkO c_laws_markVectorS 2 Try.f28 [.box []] K) := by kernel_rfl
noncomputable def s_laws_markVectorS : Sm := semIF false tV [.cell tI] (fun xs x => match x with | (k, _) => decide (0 ≤ k) && decide (k + sumW wV xs ≤ 8388608)) fun xs x => match x with | (k, _) => (.int .i64 (k + sumW wV xs), markL mkV wV k xs)
theorem ok_laws_markVectorS : FnOkL Try.prog 28 s_laws_markVectorS := fnOkO_innF (e := tV) (ag := false) (l := [.cell tI]) (gd := (fun xs x => match x with | (k, _) => decide (0 ≤ k) && decide (k + sumW wV xs ≤ 8388608))) (f := fun xs x => match x with | (k, _) => (.int .i64 (k + sumW wV xs), markL mkV wV k xs)) (fnOkO_runC (C := c_laws_markVectorS) rfl mixed .nil .nil .nil Try.func28 (by kernel_rfl)) rfl fun (xs : List V3) (x : ((Int) × Unit)) wf hg K h => by
  obtain ⟨k, ⟨⟩⟩ := x
  replace hg : (decide (0 ≤ k) && decide (k + sumW wV xs ≤ 8388608)) = true := hg
  replace h : K (.int .i64 (k + sumW wV xs)) [.sl 0 tV (markL mkV wV k xs)] := h
  rw [w_laws_markVectorS xs k K]
  simp only [Bool.and_eq_true, decide_eq_true_eq] at hg
  obtain ⟨g1, g2⟩ := hg
  have hml := markL_len mkV wV xs k
  have hxl := len_sumW wV_pos xs
  refine loop_run (σ := Nat × Int) (fun s => fr_laws_markVectorS_2 [] s.2 s.1) (fun s => hp_laws_markVectorS_2 ((markL mkV wV k xs).take s.1 ++ xs.drop s.1) s.2 s.1) (fun s => s.1 ≤ xs.length ∧ s.2 = k + sumW wV (xs.take s.1)) (fun s => xs.length - s.1) ?_ (0, k) ⟨Nat.zero_le _, by simp [sumW]⟩
  rintro ⟨i, kk⟩ ⟨hi, hkk⟩ Kn hk
  simp only at hi hkk hk ⊢
  have hl : ((markL mkV wV k xs).take i ++ xs.drop i).length = xs.length := by rw [List.length_append, List.length_take, List.length_drop, hml]; omega
  rw [show fr_laws_markVectorS_2 [] kk i = fr_laws_markVectorS_2 ((markL mkV wV k xs).take i ++ xs.drop i) kk i from rfl, r_laws_markVectorS_2 ((markL mkV wV k xs).take i ++ xs.drop i) kk i Kn K]
  by_cases hlt : i < xs.length
  · have hget := over_get (zs := markL mkV wV k xs) (xs := xs) (i := i) (by omega) hlt
    have hst := over_step (zs := markL mkV wV k xs) (xs := xs) (i := i) (by omega) hlt
    rw [markL_get mkV wV xs k i hlt, ← hkk] at hst
    have hw := sumW_take wV hlt
    have hle := sumW_le wV xs (i + 1)
    have hwx : wV (xs[i]'hlt) = 3 := rfl
    generalize hzs : (markL mkV wV k xs).take i ++ xs.drop i = zs at hl hget hst ⊢
    have hself : ∀ y, (zs.set i y)[i]? = some y := fun y => List.getElem?_set_self (by omega)
    generalize hxe : xs[i]'hlt = x at *
    rw [i64_of (show -9223372036854775808 ≤ kk + 1 by omega) (by omega), i64_of (show -9223372036854775808 ≤ kk + 1 + 1 by omega) (by omega), i64_of (show -9223372036854775808 ≤ kk + 1 + 1 + 1 by omega) (by omega)]
    simp only [hl, List.length_set, d_lt hlt, d_0, cond_true, Int.toNat_natCast, blt_t hlt, Bool.and_self, hget, hself, List.set_set]
    rw [i64_of (show -9223372036854775808 ≤ (i : Int) + 1 by omega) (by omega)]
    have hmk : zs.set i (FloatKind.nearest FloatKind.f32 kk, FloatKind.nearest FloatKind.f32 (kk + 1), FloatKind.nearest FloatKind.f32 (kk + 1 + 1)) = (markL mkV wV k xs).take (i + 1) ++ xs.drop (i + 1) := by
      rw [← hst, mkV, show kk + 2 = kk + 1 + 1 by omega]
    rw [hmk]
    have := hk (i + 1, kk + wV x) ⟨hlt, by simp only; omega⟩ (by simp only; omega)
    simp only at this
    rw [show kk + 1 + 1 + 1 = kk + ((wV x : Nat) : Int) by omega]
    exact this
  · have : i = xs.length := by omega
    simp only [hl, d_nlt hlt, cond_false]
    rw [List.take_of_length_le (by omega), List.drop_of_length_le (by omega), List.append_nil, hkk, this, List.take_length]
    exact h

/-! laws.heldVectorS -/
noncomputable def a_laws_heldVectorS : Nat → Option Ann := fun n => bif Nat.beq n 2 then some ⟨[0,1,5],0,false⟩ else none
noncomputable def c_laws_heldVectorS : Ctx := mkC Try.prog tyT [] [] [] 43 a_laws_heldVectorS 0
noncomputable def fr_laws_heldVectorS_2 (xs : List V3) (k i : Int) : Fr := [(0, .vec tV xs), (1, .int .i64 k), (5, .int .i64 i)]
theorem r_laws_heldVectorS_2 (xs : List V3) (k i : Int) (Kn : Fr → Heap → Prop) (K : V → Heap → Prop) : round c_laws_heldVectorS ⟨[0,1,5],0,false⟩ (lb c_laws_heldVectorS 2 Try.f29) (fr_laws_heldVectorS_2 xs k i) [] Kn (lk c_laws_heldVectorS 2 Try.f29 [] K) =
  cond (decide (i < (↑(List.length xs) : Int)))
    (cond (decide (0 ≤ i))
      ((match xs[Int.toNat i]? with
        | some y0 => cond (!feq FloatKind.f32 (Prod.fst y0) (FloatKind.nearest FloatKind.f32 k))
          (K (.int .i64 (-1)) [])
          (cond (decide (0 ≤ i))
            ((match xs[Int.toNat i]? with
              | some y1 => cond (!feq FloatKind.f32 (Prod.fst (Prod.snd y1)) (FloatKind.nearest FloatKind.f32 (IntKind.wrap IntKind.i64 (k + 1))))
                (K (.int .i64 (-1)) [])
                (cond (decide (0 ≤ i))
                  ((match xs[Int.toNat i]? with
                    | some y2 => cond (!feq FloatKind.f32 (Prod.snd (Prod.snd y2)) (FloatKind.nearest FloatKind.f32 (IntKind.wrap IntKind.i64 (IntKind.wrap IntKind.i64 (k + 1) + 1))))
                      (K (.int .i64 (-1)) [])
                      (Kn [(0, (.vec (.pair (.float .f32) (.pair (.float .f32) (.float .f32))) (xs))), (1, (.int .i64 (IntKind.wrap IntKind.i64 (IntKind.wrap IntKind.i64 (IntKind.wrap IntKind.i64 (k + 1) + 1) + 1)))), (5, (.int .i64 (IntKind.wrap IntKind.i64 (i + 1))))] [])
                    | none => False))
                  (False))
              | none => False))
            (False))
        | none => False))
      (False))
    (K (.int .i64 (k)) []) := by kernel_rfl
theorem w_laws_heldVectorS (xs : List V3) (k : Int) (K : V → Heap → Prop) : wpFn c_laws_heldVectorS Try.f29 (encAs [.cell (.slice tV), .cell tI] (xs, k, ())) [] K =
  LoopE c_laws_heldVectorS ⟨[0, 1, 5], 0, false⟩ (lb c_laws_heldVectorS 2 Try.f29) [(0, (.vec (.pair (.float .f32) (.pair (.float .f32) (.float .f32))) (xs))), (1, (.int .i64 (k))), (5, (.int .i64 0))] [] (lk c_laws_heldVectorS 2 Try.f29 [] K) := by kernel_rfl
noncomputable def s_laws_heldVectorS : Sm := semG [.cell (.slice tV), .cell tI] (fun x => match x with | (xs, k, _) => decide (0 ≤ k) && (decide (k + sumW wV xs ≤ 8388608) && (xs == markL mkV wV k xs))) fun x => match x with | (xs, k, _) => .int .i64 (k + sumW wV xs)
theorem ok_laws_heldVectorS : FnOk Try.prog 29 s_laws_heldVectorS := fnOk_typedG (fnOk_runC (C := c_laws_heldVectorS) rfl mixed .nil .nil .nil Try.func29 (by kernel_rfl)) fun (x : ((List V3) × (Int) × Unit)) wf hg K h => by
  obtain ⟨xs, k, ⟨⟩⟩ := x
  replace hg : (decide (0 ≤ k) && (decide (k + sumW wV xs ≤ 8388608) && (xs == markL mkV wV k xs))) = true := hg
  replace h : K (.int .i64 (k + sumW wV xs)) [] := h
  rw [w_laws_heldVectorS xs k K]
  simp only [Bool.and_eq_true, decide_eq_true_eq, beq_iff_eq] at hg
  obtain ⟨g1, g2, g4⟩ := hg
  have hxl := len_sumW wV_pos xs
  refine loop_run (σ := Nat × Int) (fun s => fr_laws_heldVectorS_2 xs s.2 s.1) (fun s => []) (fun s => s.1 ≤ xs.length ∧ s.2 = k + sumW wV (xs.take s.1)) (fun s => xs.length - s.1) ?_ (0, k) ⟨Nat.zero_le _, by simp [sumW]⟩
  rintro ⟨i, kk⟩ ⟨hi, hkk⟩ Kn hk
  simp only at hi hkk hk ⊢
  rw [r_laws_heldVectorS_2 xs kk i Kn K]
  by_cases hlt : i < xs.length
  · have hx : xs[i]'hlt = mkV kk (xs[i]'hlt) := by
      have := markL_get mkV wV xs k i hlt
      rw [hkk, ← this]
      simp only [← g4]
    have hw := sumW_take wV hlt
    have hle := sumW_le wV xs (i + 1)
    have hwx : wV (xs[i]'hlt) = 3 := rfl
    rw [i64_of (show -9223372036854775808 ≤ kk + 1 by omega) (by omega), i64_of (show -9223372036854775808 ≤ kk + 1 + 1 by omega) (by omega), i64_of (show -9223372036854775808 ≤ kk + 1 + 1 + 1 by omega) (by omega)]
    simp only [d_lt hlt, d_0, cond_true, Int.toNat_natCast, get_lt hlt]
    generalize hxe : xs[i]'hlt = x at *
    have e1 : x.1 = FloatKind.nearest FloatKind.f32 kk := by rw [hx]; rfl
    have e2 : x.2.1 = FloatKind.nearest FloatKind.f32 (kk + 1) := by rw [hx]; rfl
    have e3 : x.2.2 = FloatKind.nearest FloatKind.f32 (kk + 1 + 1) := by rw [hx, mkV, show kk + 2 = kk + 1 + 1 by omega]
    simp only [e1, e2, e3, cond_false, feq_self, nan_near kk (by omega), nan_near (kk + 1) (by omega), nan_near (kk + 1 + 1) (by omega), Bool.not_false, Bool.not_true]
    rw [i64_of (show -9223372036854775808 ≤ (i : Int) + 1 by omega) (by omega)]
    have := hk (i + 1, kk + wV x) ⟨hlt, by simp only; omega⟩ (by simp only; omega)
    simp only at this
    rw [show kk + 1 + 1 + 1 = kk + ((wV x : Nat) : Int) by omega]
    exact this
  · have : i = xs.length := by omega
    simp only [d_nlt hlt, cond_false]
    rw [hkk, this, List.take_length]
    exact h

theorem pathR_len (t : ThingD) (fr st n : Int) : (pathR t fr st n).length ≤ 256 := by
  unfold pathR
  cases h : pathOk t fr st n with
  | false => exact Nat.zero_le _
  | true =>
    show (pathL t.2.2 fr st n.toNat).length ≤ 256
    rw [pathL_len]
    unfold pathOk at h
    simp only [Bool.and_eq_true] at h
    have := inR_iff.1 h.2.2.2.1
    omega

/-! laws.FnExactPathOf -/
noncomputable def c_laws_FnExactPathOf : Ctx := mkC Try.prog tyT [(21, s_laws_szThing), (26, s_laws_eqThing), (25, s_laws_eqVectorS), (29, s_laws_heldVectorS)] [] [(23, s_laws_toThing_vg), (22, s_spec_PathOf_vg), (24, s_impl_PathOf_vg), (27, s_laws_markThing), (28, s_laws_markVectorS)] 111 (fun _ => none) 0 false [(23, s_laws_toThing)]
theorem w_laws_FnExactPathOf (s : Str) (ns : ShapeD) (ks : List KeyD) (fr st n : Int) (K : V → Heap → Prop) : wpFn c_laws_FnExactPathOf Try.f6 (encAs [.agg tT, .cell tI, .cell tI, .cell tI] ((s, ns, ks), fr, st, n, ())) [] K =
  cond (decide (szV 1048576 (wThing (s, ns, ks)) < 0))
    (K (.bool true) [])
    (cond (fitT (s, ns, ks))
      (cond (fitT (s, ns, ks))
        (cond (pathR (s, ns, ks) fr st n == pathR (s, ns, ks) fr st n)
          (cond (pathOk (s, ns, ks) fr st n != pathOk (s, ns, ks) fr st n)
            (K (.bool false) [])
            (cond (fitT (s, ns, ks))
              (cond ((s, ns, ks) == (s, ns, ks))
                (cond (decide (0 ≤ 1) && decide (1 + (↑(sumW wN ns) : Int) + (↑(sumW wK ks) : Int) ≤ 8388608))
                  (cond (pathR (s, ns, ks) fr st n == pathR (s, ns, ks) fr st n)
                    (cond (pathOk (s, ns, ks) fr st n != pathOk (s, ns, ks) fr st n)
                      (K (.bool false) [])
                      (cond ((fun xs x => decide (0 ≤ Prod.fst x) && decide (Prod.fst x + (↑(sumW wV xs) : Int) ≤ 8388608)) (pathR (s, ns, ks) fr st n) (1, ()))
                        (cond (decide (0 ≤ 1) && (decide (1 + (↑(sumW wV (markL mkV wV 1 (pathR (s, ns, ks) fr st n))) : Int) ≤ 8388608) && markL mkV wV 1 (pathR (s, ns, ks) fr st n) == markL mkV wV 1 (markL mkV wV 1 (pathR (s, ns, ks) fr st n))))
                          (cond (1 + (↑(sumW wV (markL mkV wV 1 (pathR (s, ns, ks) fr st n))) : Int) != 1 + (↑(sumW wV (pathR (s, ns, ks) fr st n)) : Int))
                            (K (.bool false) [])
                            (cond (fitT (s, ns, ks))
                              (cond (pathR (s, ns, ks) fr st n == pathR (s, ns, ks) fr st n)
                                (cond (pathOk (s, ns, ks) fr st n != pathOk (s, ns, ks) fr st n)
                                  (K (.bool false) [])
                                  (cond (decide (0 ≤ 1) && (decide (1 + (↑(sumW wV (markL mkV wV 1 (pathR (s, ns, ks) fr st n))) : Int) ≤ 8388608) && markL mkV wV 1 (pathR (s, ns, ks) fr st n) == markL mkV wV 1 (markL mkV wV 1 (pathR (s, ns, ks) fr st n))))
                                    (cond (1 + (↑(sumW wV (markL mkV wV 1 (pathR (s, ns, ks) fr st n))) : Int) != 1 + (↑(sumW wV (pathR (s, ns, ks) fr st n)) : Int))
                                      (K (.bool false) [])
                                      (K (.bool true) []))
                                    (False)))
                                (False))
                              (False)))
                          (False))
                        (False)))
                    (False))
                  (False))
                (False))
              (False)))
          (False))
        (False))
      (False)) := by kernel_rfl
noncomputable def s_laws_FnExactPathOf : Sm := semT [.agg tT, .cell tI, .cell tI, .cell tI] fun x => match x with | ((s, ns, ks), fr, st, n, _) => .bool true
theorem ok_laws_FnExactPathOf : FnOk Try.prog 6 s_laws_FnExactPathOf := fnOk_typed (fnOk_runC (C := c_laws_FnExactPathOf) rfl mixed (.cons ok_laws_szThing (.cons ok_laws_eqThing (.cons ok_laws_eqVectorS (.cons ok_laws_heldVectorS .nil)))) .nil (.cons ok_laws_toThing_vg (.cons ok_spec_PathOf_vg (.cons ok_impl_PathOf_vg (.cons ok_laws_markThing (.cons ok_laws_markVectorS .nil))))) Try.func6 (by kernel_rfl) (.cons ok_laws_toThing .nil)) fun (x : (((Str) × (ShapeD) × (List KeyD)) × (Int) × (Int) × (Int) × Unit)) wf K h => by
  obtain ⟨⟨s, ns, ks⟩, fr, st, n, ⟨⟩⟩ := x
  replace h : K (.bool true) [] := h
  rw [w_laws_FnExactPathOf s ns ks fr st n K]
  by_cases hw : wThing (s, ns, ks) ≤ 1048576
  · have hl := pathR_len (s, ns, ks) fr st n
    have m1 := markT_le hw
    have m2 := sumWV (pathR (s, ns, ks) fr st n)
    simp only at m1
    have z : szV 1048576 (wThing (s, ns, ks)) = 1048576 - (wThing (s, ns, ks) : Int) := szV_ok (by omega)
    rw [z]
    generalize pathR (s, ns, ks) fr st n = R at *
    simp only [d_f (show ¬ (1048576 - (wThing (s, ns, ks) : Int) < 0) by omega), fitT_of hw, markL_idem mkV_idem wV_mk, sumW_markL wV_mk, beq_self_eq_true, bne_self_eq_false, cond_true, cond_false,
      d_t (show (0 : Int) ≤ 1 by omega), d_t (show 1 + (sumW wN ns : Int) + (sumW wK ks : Int) ≤ 8388608 by omega), d_t (show 1 + (sumW wV R : Int) ≤ 8388608 by omega), Bool.and_self, Bool.true_and]
    exact h
  · rw [szV_no (by omega)]
    exact h

end Go.Proofs.Ytbalmdjicdeeiaa
