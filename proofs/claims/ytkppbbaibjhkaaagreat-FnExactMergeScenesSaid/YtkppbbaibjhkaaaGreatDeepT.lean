/- Things that one owns: made, marked, and found marked. -/
import Derived.Test.YtkppbbaibjhkaaaGreatScene
import Derived.Test.YtkppbbaibjhkaaaGreatDeep
set_option linter.unusedVariables false
set_option linter.unusedSimpArgs false
set_option maxRecDepth 100000
namespace Go.Proofs.YtkppbbaibjhkaaaGreat
open Go.Ev

/-! laws.toKeyS -/
noncomputable def a_laws_toKeyS_vg : Nat → Option Ann := fun n => bif Nat.beq n 3 then some ⟨[0,3,4],1,false⟩ else none
noncomputable def c_laws_toKeyS_vg : Ctx := mkC Tryz.prog tyT [(47, s_laws_toKey)] [] [] 23 a_laws_toKeyS_vg 0
noncomputable def gp_laws_toKeyS_vg : List (List (Option Ty)) := List.map giveR [.cell (.own (tK))]
noncomputable def fr_laws_toKeyS_vg_3 (xs ys : List (KeyD)) (i : Int) : Fr := [(0, .vec (tK) xs), (3, .obj 0 0), (4, .int .i64 i)]
noncomputable def hp_laws_toKeyS_vg_3 (xs ys : List (KeyD)) (i : Int) : Heap := [.sl 0 (tK) ys]
theorem r_laws_toKeyS_vg_3 (xs ys : List (KeyD)) (i : Int) (Kn : Fr → Heap → Prop) (K : V → Heap → Prop) : round c_laws_toKeyS_vg ⟨[0,3,4],1,false⟩ (lb c_laws_toKeyS_vg 3 Tryz.f27) (fr_laws_toKeyS_vg_3 xs ys i) (hp_laws_toKeyS_vg_3 xs ys i) Kn (lkG gp_laws_toKeyS_vg c_laws_toKeyS_vg 3 Tryz.f27 [] K) =
  cond (decide (i < (↑(List.length xs) : Int)))
    (cond (decide (0 ≤ i))
      ((match xs[Int.toNat i]? with
        | some y0 => cond (decide (0 ≤ i) && Nat.blt (Int.toNat i) (List.length ys))
          ((match ys[Int.toNat i]? with
            | some x1 => Kn [(0, (.vec tK (xs))), (3, (.obj 0 0)), (4, (.int .i64 (IntKind.wrap IntKind.i64 (i + 1))))] [(.sl 0 tK (List.set ys (Int.toNat i) y0))]
            | none => False))
          (False)
        | none => False))
      (False))
    (K (.obj 0 0) [(.sl 0 tK (ys))]) := by kernel_rfl
theorem w_laws_toKeyS_vg (xs : List (KeyD)) (K : V → Heap → Prop) : wpFnG gp_laws_toKeyS_vg c_laws_toKeyS_vg Tryz.f27 (encAs [.cell (.slice (tK))] (xs, ())) [] K =
  cond (decide (0 ≤ (↑(List.length xs) : Int)) && (decide ((↑(List.length xs) : Int) ≤ (↑(List.length xs) : Int)) && decide ((↑24 : Int) * (↑(List.length xs) : Int) ≤ 281474976710656)))
    (LoopE c_laws_toKeyS_vg ⟨[0, 3, 4], 1, false⟩ (lb c_laws_toKeyS_vg 3 Tryz.f27) [(0, (.vec tK (xs))), (3, (.obj 0 0)), (4, (.int .i64 0))] [(.sl 0 tK (List.replicate (Int.toNat (↑(List.length xs) : Int)) (0, 0, 0, 0)))] (lkG gp_laws_toKeyS_vg c_laws_toKeyS_vg 3 Tryz.f27 [] K))
    (False) := by kernel_rfl
noncomputable def s_laws_toKeyS_vg : Sm := semV [.cell (.slice (tK))] [.cell (.own (tK))] (fun x => match x with | (xs, _) => decide (xs.length ≤ 1048576)) fun x => match x with | (xs, _) => (xs, ())
theorem ok_laws_toKeyS_vg : FnOkL Tryz.prog 27 s_laws_toKeyS_vg := fnOkO_give (fnOkO_runG (C := c_laws_toKeyS_vg) gp_laws_toKeyS_vg rfl mixed (.cons ok_laws_toKey .nil) .nil .nil Tryz.func27 (by kernel_rfl)) rfl fun (x : ((List (KeyD)) × Unit)) wf hg K h => by
  obtain ⟨xs, ⟨⟩⟩ := x
  replace hg : (decide (xs.length ≤ 1048576)) = true := hg
  replace h : K (tup (valRs [.cell (.own (tK))] ((xs, ())) 0)) (thRs [.cell (.own (tK))] ((xs, ()))) := h
  rw [w_laws_toKeyS_vg xs K]
  simp only [decide_eq_true_eq] at hg
  skip
  rw [d_0, d_t (Int.le_refl _), d_t (by omega)]
  simp only [Bool.and_self, cond_true, Int.toNat_natCast]
  refine loop_run (σ := Nat) (fun i => fr_laws_toKeyS_vg_3 xs [] i) (fun i => hp_laws_toKeyS_vg_3 xs (xs.take i ++ List.replicate (xs.length - i) (0, 0, 0, 0)) i) (fun i => i ≤ xs.length) (fun i => xs.length - i) ?_ 0 (Nat.zero_le _)
  intro i hi Kn hk
  rw [show fr_laws_toKeyS_vg_3 xs [] i = fr_laws_toKeyS_vg_3 xs (xs.take i ++ List.replicate (xs.length - i) (0, 0, 0, 0)) i from rfl, r_laws_toKeyS_vg_3 xs (xs.take i ++ List.replicate (xs.length - i) (0, 0, 0, 0)) i Kn K]
  by_cases hlt : i < xs.length
  · have hl : (xs.take i ++ List.replicate (xs.length - i) (0, 0, 0, 0)).length = xs.length := by rw [List.length_append, List.length_take, List.length_replicate]; omega
    have hl' : i < (xs.take i ++ List.replicate (xs.length - i) (0, 0, 0, 0)).length := by omega
    simp only [d_lt hlt, d_0, cond_true, Int.toNat_natCast, get_lt hlt, blt_t hl', get_lt hl', Bool.and_self]
    rw [i64_of (by omega) (by omega), copy_step hlt rfl rfl]
    exact hk (i + 1) hlt (by omega)
  · have : i = xs.length := by omega
    subst this
    simp only [d_nlt hlt, cond_false, List.take_length, Nat.sub_self, List.replicate_zero, List.append_nil]
    exact h

--B mkK Int → KeyD → KeyD
def mkK (k : Int) (_ : KeyD) : KeyD := (k, FloatKind.f32.nearest (k + 1), FloatKind.f32.nearest (k + 2), FloatKind.f32.nearest (k + 3))
--B wK KeyD → Nat
def wK (_ : KeyD) : Nat := 4
theorem wK_pos (x : KeyD) : 1 ≤ wK x := by unfold wK; omega

/-! laws.markKeyS -/
noncomputable def a_laws_markKeyS : Nat → Option Ann := fun n => bif Nat.beq n 2 then some ⟨[0,1,5],1,false⟩ else none
noncomputable def c_laws_markKeyS : Ctx := mkC Tryz.prog tyT [] [] [] 47 a_laws_markKeyS 1
noncomputable def fr_laws_markKeyS_2 (xs : List KeyD) (k i : Int) : Fr := [(0, .obj 0 0), (1, .int .i64 k), (5, .int .i64 i)]
noncomputable def hp_laws_markKeyS_2 (xs : List KeyD) (k i : Int) : Heap := [.sl 0 tK xs]
theorem r_laws_markKeyS_2 (xs : List KeyD) (k i : Int) (Kn : Fr → Heap → Prop) (K : V → Heap → Prop) : round c_laws_markKeyS ⟨[0,1,5],1,false⟩ (lb c_laws_markKeyS 2 Tryz.f38) (fr_laws_markKeyS_2 xs k i) (hp_laws_markKeyS_2 xs k i) Kn (lkO c_laws_markKeyS 2 Tryz.f38 [.box []] K) =
  cond (decide (i < (↑(List.length xs) : Int)))
    (cond (decide (0 ≤ i) && Nat.blt (Int.toNat i) (List.length xs))
      ((match xs[Int.toNat i]? with
        | some x0 => cond (decide (0 ≤ i) && Nat.blt (Int.toNat i) (List.length (List.set xs (Int.toNat i) (k, Prod.snd x0))))
          ((match (List.set xs (Int.toNat i) (k, Prod.snd x0))[Int.toNat i]? with
            | some x1 => cond (decide (0 ≤ i) && Nat.blt (Int.toNat i) (List.length (List.set (List.set xs (Int.toNat i) (k, Prod.snd x0)) (Int.toNat i) (Prod.fst x1, FloatKind.nearest FloatKind.f32 (IntKind.wrap IntKind.i64 (k + 1)), Prod.snd (Prod.snd x1)))))
              ((match (List.set (List.set xs (Int.toNat i) (k, Prod.snd x0)) (Int.toNat i) (Prod.fst x1, FloatKind.nearest FloatKind.f32 (IntKind.wrap IntKind.i64 (k + 1)), Prod.snd (Prod.snd x1)))[Int.toNat i]? with
                | some x2 => cond (decide (0 ≤ i) && Nat.blt (Int.toNat i) (List.length (List.set (List.set (List.set xs (Int.toNat i) (k, Prod.snd x0)) (Int.toNat i) (Prod.fst x1, FloatKind.nearest FloatKind.f32 (IntKind.wrap IntKind.i64 (k + 1)), Prod.snd (Prod.snd x1))) (Int.toNat i) (Prod.fst x2, Prod.fst (Prod.snd x2), FloatKind.nearest FloatKind.f32 (IntKind.wrap IntKind.i64 (IntKind.wrap IntKind.i64 (k + 1) + 1)), Prod.snd (Prod.snd (Prod.snd x2))))))
                  ((match (List.set (List.set (List.set xs (Int.toNat i) (k, Prod.snd x0)) (Int.toNat i) (Prod.fst x1, FloatKind.nearest FloatKind.f32 (IntKind.wrap IntKind.i64 (k + 1)), Prod.snd (Prod.snd x1))) (Int.toNat i) (Prod.fst x2, Prod.fst (Prod.snd x2), FloatKind.nearest FloatKind.f32 (IntKind.wrap IntKind.i64 (IntKind.wrap IntKind.i64 (k + 1) + 1)), Prod.snd (Prod.snd (Prod.snd x2))))[Int.toNat i]? with
                    | some x3 => Kn [(0, (.obj 0 0)), (1, (.int .i64 (IntKind.wrap IntKind.i64 (IntKind.wrap IntKind.i64 (IntKind.wrap IntKind.i64 (IntKind.wrap IntKind.i64 (k + 1) + 1) + 1) + 1)))), (5, (.int .i64 (IntKind.wrap IntKind.i64 (i + 1))))] [(.sl 0 tK (List.set (List.set (List.set (List.set xs (Int.toNat i) (k, Prod.snd x0)) (Int.toNat i) (Prod.fst x1, FloatKind.nearest FloatKind.f32 (IntKind.wrap IntKind.i64 (k + 1)), Prod.snd (Prod.snd x1))) (Int.toNat i) (Prod.fst x2, Prod.fst (Prod.snd x2), FloatKind.nearest FloatKind.f32 (IntKind.wrap IntKind.i64 (IntKind.wrap IntKind.i64 (k + 1) + 1)), Prod.snd (Prod.snd (Prod.snd x2)))) (Int.toNat i) (Prod.fst x3, Prod.fst (Prod.snd x3), Prod.fst (Prod.snd (Prod.snd x3)), FloatKind.nearest FloatKind.f32 (IntKind.wrap IntKind.i64 (IntKind.wrap IntKind.i64 (IntKind.wrap IntKind.i64 (k + 1) + 1) + 1)))))]
                    | none => False))
                  (False)
                | none => False))
              (False)
            | none => False))
          (False)
        | none => False))
      (False))
    (K (.int .i64 (k)) [(.sl 0 tK (xs))]) := by kernel_rfl
theorem w_laws_markKeyS (xs : List KeyD) (k : Int) (K : V → Heap → Prop) : wpFnO c_laws_markKeyS Tryz.f38 (ofCells false [.obj 0 0] :: encAs [.cell tI] (k, ())) [.sl 0 tK xs] K =
  LoopE c_laws_markKeyS ⟨[0, 1, 5], 1, false⟩ (lb c_laws_markKeyS 2 Tryz.f38) [(0, (.obj 0 0)), (1, (.int .i64 (k))), (5, (.int .i64 0))] [(.sl 0 tK (xs))] (lkO c_laws_markKeyS 2 Tryz.f38 [.box []] K) := by kernel_rfl
noncomputable def s_laws_markKeyS : Sm := semIF false tK [.cell tI] (fun xs x => match x with | (k, _) => decide (0 ≤ k) && decide (k + sumW wK xs ≤ 8388608)) fun xs x => match x with | (k, _) => (.int .i64 (k + sumW wK xs), markL mkK wK k xs)
theorem ok_laws_markKeyS : FnOkL Tryz.prog 38 s_laws_markKeyS := fnOkO_innF (e := tK) (ag := false) (l := [.cell tI]) (gd := (fun xs x => match x with | (k, _) => decide (0 ≤ k) && decide (k + sumW wK xs ≤ 8388608))) (f := fun xs x => match x with | (k, _) => (.int .i64 (k + sumW wK xs), markL mkK wK k xs)) (fnOkO_runC (C := c_laws_markKeyS) rfl mixed .nil .nil .nil Tryz.func38 (by kernel_rfl)) rfl fun (xs : List KeyD) (x : ((Int) × Unit)) wf hg K h => by
  obtain ⟨k, ⟨⟩⟩ := x
  replace hg : (decide (0 ≤ k) && decide (k + sumW wK xs ≤ 8388608)) = true := hg
  replace h : K (.int .i64 (k + sumW wK xs)) [.sl 0 tK (markL mkK wK k xs)] := h
  rw [w_laws_markKeyS xs k K]
  simp only [Bool.and_eq_true, decide_eq_true_eq] at hg
  obtain ⟨g1, g2⟩ := hg
  have hml := markL_len mkK wK xs k
  have hxl := len_sumW wK_pos xs
  refine loop_run (σ := Nat × Int) (fun s => fr_laws_markKeyS_2 [] s.2 s.1) (fun s => hp_laws_markKeyS_2 ((markL mkK wK k xs).take s.1 ++ xs.drop s.1) s.2 s.1) (fun s => s.1 ≤ xs.length ∧ s.2 = k + sumW wK (xs.take s.1)) (fun s => xs.length - s.1) ?_ (0, k) ⟨Nat.zero_le _, by simp [sumW]⟩
  rintro ⟨i, kk⟩ ⟨hi, hkk⟩ Kn hk
  simp only at hi hkk hk ⊢
  have hl : ((markL mkK wK k xs).take i ++ xs.drop i).length = xs.length := by rw [List.length_append, List.length_take, List.length_drop, hml]; omega
  rw [show fr_laws_markKeyS_2 [] kk i = fr_laws_markKeyS_2 ((markL mkK wK k xs).take i ++ xs.drop i) kk i from rfl, r_laws_markKeyS_2 ((markL mkK wK k xs).take i ++ xs.drop i) kk i Kn K]
  by_cases hlt : i < xs.length
  · have hget := over_get (zs := markL mkK wK k xs) (xs := xs) (i := i) (by omega) hlt
    have hst := over_step (zs := markL mkK wK k xs) (xs := xs) (i := i) (by omega) hlt
    rw [markL_get mkK wK xs k i hlt, ← hkk] at hst
    have hw := sumW_take wK hlt
    have hle := sumW_le wK xs (i + 1)
    have hwx : wK (xs[i]'hlt) = 4 := rfl
    generalize hzs : (markL mkK wK k xs).take i ++ xs.drop i = zs at hl hget hst ⊢
    have hself : ∀ y, (zs.set i y)[i]? = some y := fun y => List.getElem?_set_self (by omega)
    generalize hxe : xs[i]'hlt = x at *
    rw [i64_of (show -9223372036854775808 ≤ kk + 1 by omega) (by omega), i64_of (show -9223372036854775808 ≤ kk + 1 + 1 by omega) (by omega), i64_of (show -9223372036854775808 ≤ kk + 1 + 1 + 1 by omega) (by omega), i64_of (show -9223372036854775808 ≤ kk + 1 + 1 + 1 + 1 by omega) (by omega)]
    simp only [hl, List.length_set, d_lt hlt, d_0, cond_true, Int.toNat_natCast, blt_t hlt, Bool.and_self, hget, hself, List.set_set]
    rw [i64_of (show -9223372036854775808 ≤ (i : Int) + 1 by omega) (by omega)]
    have hmk : zs.set i (kk, FloatKind.nearest FloatKind.f32 (kk + 1), FloatKind.nearest FloatKind.f32 (kk + 1 + 1), FloatKind.nearest FloatKind.f32 (kk + 1 + 1 + 1)) = (markL mkK wK k xs).take (i + 1) ++ xs.drop (i + 1) := by
      rw [← hst, mkK, show kk + 3 = kk + 1 + 1 + 1 by omega, show kk + 2 = kk + 1 + 1 by omega]
    rw [hmk]
    have := hk (i + 1, kk + wK x) ⟨hlt, by simp only; omega⟩ (by simp only; omega)
    simp only at this
    rw [show kk + 1 + 1 + 1 + 1 = kk + ((wK x : Nat) : Int) by omega]
    exact this
  · have : i = xs.length := by omega
    simp only [hl, d_nlt hlt, cond_false]
    rw [List.take_of_length_le (by omega), List.drop_of_length_le (by omega), List.append_nil, hkk, this, List.take_length]
    exact h

/-! laws.heldKeyS -/
noncomputable def a_laws_heldKeyS : Nat → Option Ann := fun n => bif Nat.beq n 2 then some ⟨[0,1,5],0,false⟩ else none
noncomputable def c_laws_heldKeyS : Ctx := mkC Tryz.prog tyT [] [] [] 55 a_laws_heldKeyS 0
noncomputable def fr_laws_heldKeyS_2 (xs : List KeyD) (k i : Int) : Fr := [(0, .vec tK xs), (1, .int .i64 k), (5, .int .i64 i)]
theorem r_laws_heldKeyS_2 (xs : List KeyD) (k i : Int) (Kn : Fr → Heap → Prop) (K : V → Heap → Prop) : round c_laws_heldKeyS ⟨[0,1,5],0,false⟩ (lb c_laws_heldKeyS 2 Tryz.f60) (fr_laws_heldKeyS_2 xs k i) [] Kn (lk c_laws_heldKeyS 2 Tryz.f60 [] K) =
  cond (decide (i < (↑(List.length xs) : Int)))
    (cond (decide (0 ≤ i))
      ((match xs[Int.toNat i]? with
        | some y0 => cond (Prod.fst y0 != k)
          (K (.int .i64 (-1)) [])
          (cond (decide (0 ≤ i))
            ((match xs[Int.toNat i]? with
              | some y1 => cond (!feq FloatKind.f32 (Prod.fst (Prod.snd y1)) (FloatKind.nearest FloatKind.f32 (IntKind.wrap IntKind.i64 (k + 1))))
                (K (.int .i64 (-1)) [])
                (cond (decide (0 ≤ i))
                  ((match xs[Int.toNat i]? with
                    | some y2 => cond (!feq FloatKind.f32 (Prod.fst (Prod.snd (Prod.snd y2))) (FloatKind.nearest FloatKind.f32 (IntKind.wrap IntKind.i64 (IntKind.wrap IntKind.i64 (k + 1) + 1))))
                      (K (.int .i64 (-1)) [])
                      (cond (decide (0 ≤ i))
                        ((match xs[Int.toNat i]? with
                          | some y3 => cond (!feq FloatKind.f32 (Prod.snd (Prod.snd (Prod.snd y3))) (FloatKind.nearest FloatKind.f32 (IntKind.wrap IntKind.i64 (IntKind.wrap IntKind.i64 (IntKind.wrap IntKind.i64 (k + 1) + 1) + 1))))
                            (K (.int .i64 (-1)) [])
                            (Kn [(0, (.vec tK (xs))), (1, (.int .i64 (IntKind.wrap IntKind.i64 (IntKind.wrap IntKind.i64 (IntKind.wrap IntKind.i64 (IntKind.wrap IntKind.i64 (k + 1) + 1) + 1) + 1)))), (5, (.int .i64 (IntKind.wrap IntKind.i64 (i + 1))))] [])
                          | none => False))
                        (False))
                    | none => False))
                  (False))
              | none => False))
            (False))
        | none => False))
      (False))
    (K (.int .i64 (k)) []) := by kernel_rfl
theorem w_laws_heldKeyS (xs : List KeyD) (k : Int) (K : V → Heap → Prop) : wpFn c_laws_heldKeyS Tryz.f60 (encAs [.cell (.slice tK), .cell tI] (xs, k, ())) [] K =
  LoopE c_laws_heldKeyS ⟨[0, 1, 5], 0, false⟩ (lb c_laws_heldKeyS 2 Tryz.f60) [(0, (.vec tK (xs))), (1, (.int .i64 (k))), (5, (.int .i64 0))] [] (lk c_laws_heldKeyS 2 Tryz.f60 [] K) := by kernel_rfl
noncomputable def s_laws_heldKeyS : Sm := semG [.cell (.slice tK), .cell tI] (fun x => match x with | (xs, k, _) => decide (0 ≤ k) && (decide (k + sumW wK xs ≤ 8388608) && (xs == markL mkK wK k xs))) fun x => match x with | (xs, k, _) => .int .i64 (k + sumW wK xs)
theorem ok_laws_heldKeyS : FnOk Tryz.prog 60 s_laws_heldKeyS := fnOk_typedG (fnOk_runC (C := c_laws_heldKeyS) rfl mixed .nil .nil .nil Tryz.func60 (by kernel_rfl)) fun (x : ((List KeyD) × (Int) × Unit)) wf hg K h => by
  obtain ⟨xs, k, ⟨⟩⟩ := x
  replace hg : (decide (0 ≤ k) && (decide (k + sumW wK xs ≤ 8388608) && (xs == markL mkK wK k xs))) = true := hg
  replace h : K (.int .i64 (k + sumW wK xs)) [] := h
  rw [w_laws_heldKeyS xs k K]
  simp only [Bool.and_eq_true, decide_eq_true_eq, beq_iff_eq] at hg
  obtain ⟨g1, g2, g4⟩ := hg
  have hxl := len_sumW wK_pos xs
  refine loop_run (σ := Nat × Int) (fun s => fr_laws_heldKeyS_2 xs s.2 s.1) (fun s => []) (fun s => s.1 ≤ xs.length ∧ s.2 = k + sumW wK (xs.take s.1)) (fun s => xs.length - s.1) ?_ (0, k) ⟨Nat.zero_le _, by simp [sumW]⟩
  rintro ⟨i, kk⟩ ⟨hi, hkk⟩ Kn hk
  simp only at hi hkk hk ⊢
  rw [r_laws_heldKeyS_2 xs kk i Kn K]
  by_cases hlt : i < xs.length
  · have hx : xs[i]'hlt = mkK kk (xs[i]'hlt) := by
      have := markL_get mkK wK xs k i hlt
      rw [hkk, ← this]
      simp only [← g4]
    have hw := sumW_take wK hlt
    have hle := sumW_le wK xs (i + 1)
    have hwx : wK (xs[i]'hlt) = 4 := rfl
    rw [i64_of (show -9223372036854775808 ≤ kk + 1 by omega) (by omega), i64_of (show -9223372036854775808 ≤ kk + 1 + 1 by omega) (by omega), i64_of (show -9223372036854775808 ≤ kk + 1 + 1 + 1 by omega) (by omega), i64_of (show -9223372036854775808 ≤ kk + 1 + 1 + 1 + 1 by omega) (by omega)]
    simp only [d_lt hlt, d_0, cond_true, Int.toNat_natCast, get_lt hlt]
    generalize hxe : xs[i]'hlt = x at *
    have e1 : x.1 = kk := by rw [hx]; rfl
    have e2 : x.2.1 = FloatKind.nearest FloatKind.f32 (kk + 1) := by rw [hx]; rfl
    have e3 : x.2.2.1 = FloatKind.nearest FloatKind.f32 (kk + 1 + 1) := by rw [hx, mkK, show kk + 2 = kk + 1 + 1 by omega]
    have e4 : x.2.2.2 = FloatKind.nearest FloatKind.f32 (kk + 1 + 1 + 1) := by rw [hx, mkK, show kk + 3 = kk + 1 + 1 + 1 by omega]
    simp only [e1, e2, e3, e4, bne_self_eq_false, cond_false, feq_self, nan_near (kk + 1) (by omega), nan_near (kk + 1 + 1) (by omega), nan_near (kk + 1 + 1 + 1) (by omega), Bool.not_false, Bool.not_true]
    rw [i64_of (show -9223372036854775808 ≤ (i : Int) + 1 by omega) (by omega)]
    have := hk (i + 1, kk + wK x) ⟨hlt, by simp only; omega⟩ (by simp only; omega)
    simp only at this
    rw [show kk + 1 + 1 + 1 + 1 = kk + ((wK x : Nat) : Int) by omega]
    exact this
  · have : i = xs.length := by omega
    simp only [d_nlt hlt, cond_false]
    rw [hkk, this, List.take_length]
    exact h

/-! laws.toShape -/
noncomputable def c_laws_toShape_vg : Ctx := mkC Tryz.prog tyT [] [] [(46, s_laws_toNodeS_vg)] 9 (fun _ => none) 0
noncomputable def gp_laws_toShape_vg : List (List (Option Ty)) := List.map giveR [.agg [.deep tN]]
theorem w_laws_toShape_vg (s : ShapeD) (K : V → Heap → Prop) : wpFnG gp_laws_toShape_vg c_laws_toShape_vg Tryz.f26 (encAs [.agg tS] (s, ())) [] K =
  cond (decide (List.length s ≤ 1048576) && List.all s fitN)
    (K (.agg [(.dob 0 0)]) [(.dp 0 0 tN (s))])
    (False) := by kernel_rfl
noncomputable def s_laws_toShape_vg : Sm := semV [.agg tS] [.agg [.deep tN]] (fun x => match x with | (s, _) => fitS s) fun x => match x with | (s, _) => ((s, ()), ())
theorem ok_laws_toShape_vg : FnOkL Tryz.prog 26 s_laws_toShape_vg := fnOkO_give (fnOkO_runG (C := c_laws_toShape_vg) gp_laws_toShape_vg rfl mixed .nil .nil (.cons ok_laws_toNodeS_vg .nil) Tryz.func26 (by kernel_rfl)) rfl fun (x : ((ShapeD) × Unit)) wf hg K h => by
  obtain ⟨s, ⟨⟩⟩ := x
  replace hg : (fitS s) = true := hg
  replace h : K (tup (valRs [.agg [.deep tN]] (((s, ()), ())) 0)) (thRs [.agg [.deep tN]] (((s, ()), ()))) := h
  rw [w_laws_toShape_vg s K]
  rw [show (decide (s.length ≤ 1048576) && s.all fitN) = true from hg]
  exact h

/-! laws.markShape -/
noncomputable def c_laws_markShape : Ctx := mkC Tryz.prog tyT [] [] [(58, s_laws_markNodeS)] 10 (fun _ => none) 1
theorem w_laws_markShape (ns : ShapeD) (k : Int) (K : V → Heap → Prop) : wpFnO c_laws_markShape Tryz.f37 (ofCells true (encP [.deep tN] (ns, ()) 0) :: encAs [.cell tI] (k, ())) (thP [.deep tN] (ns, ())) K =
  cond ((fun xs x => decide (0 ≤ Prod.fst x) && decide (Prod.fst x + (↑(sumW wN xs) : Int) ≤ 8388608)) ns (k, ()))
    (K (.int .i64 (k + (↑(sumW wN ns) : Int))) [(.dp 0 0 tN (markL mkN wN k ns))])
    (False) := by kernel_rfl
noncomputable def s_laws_markShape : Sm := semM true [.deep tN] [.cell tI] (fun y x => match y, x with | (ns, _), (k, _) => decide (0 ≤ k) && decide (k + sumW wN ns ≤ 8388608)) fun y x => match y, x with | (ns, _), (k, _) => (.int .i64 (k + sumW wN ns), (markL mkN wN k ns, ()))
theorem ok_laws_markShape : FnOkL Tryz.prog 37 s_laws_markShape := fnOkO_mark (fnOkO_runC (C := c_laws_markShape) rfl mixed .nil .nil (.cons ok_laws_markNodeS .nil) Tryz.func37 (by kernel_rfl)) (by first | exact .inl rfl | exact .inr (.inl ⟨_, rfl⟩) | exact .inr (.inr ⟨_, rfl⟩)) fun (y : ((ShapeD) × Unit)) (x : ((Int) × Unit)) wf hg K h => by
  obtain ⟨k, ⟨⟩⟩ := x
  obtain ⟨ns, ⟨⟩⟩ := y
  replace hg : (decide (0 ≤ k) && decide (k + sumW wN ns ≤ 8388608)) = true := hg
  replace h : K (.int .i64 (k + sumW wN ns)) (thP [.deep tN] ((markL mkN wN k ns, ()))) := h
  rw [w_laws_markShape ns k K]
  simp only
  rw [hg]
  exact h


abbrev pT : List Po := [.imm .str, .deep tN, .own tK]
/-! laws.toThing -/
noncomputable def c_laws_toThing_vg : Ctx := mkC Tryz.prog tyT [] [] [(26, s_laws_toShape_vg), (27, s_laws_toKeyS_vg)] 16 (fun _ => none) 0
noncomputable def gp_laws_toThing_vg : List (List (Option Ty)) := List.map giveR [.agg pT]
theorem w_laws_toThing_vg (s : Str) (ns : ShapeD) (ks : List KeyD) (K : V → Heap → Prop) : wpFnG gp_laws_toThing_vg c_laws_toThing_vg Tryz.f9 (encAs [.agg tT] ((s, ns, ks), ())) [] K =
  cond (fitS ns)
    (cond (decide (List.length ks ≤ 1048576))
      (K (.agg [(.str (s)), (.dob 0 0), (.obj 1 0)]) [(.dp 0 0 tN (ns)), (.sl 0 tK (ks))])
      (False))
    (False) := by kernel_rfl
noncomputable def s_laws_toThing_vg : Sm := semV [.agg tT] [.agg pT] (fun x => match x with | ((s, ns, ks), _) => fitT (s, ns, ks)) fun x => match x with | ((s, ns, ks), _) => ((s, ns, ks, ()), ())
theorem ok_laws_toThing_vg : FnOkL Tryz.prog 9 s_laws_toThing_vg := fnOkO_give (fnOkO_runG (C := c_laws_toThing_vg) gp_laws_toThing_vg rfl mixed .nil .nil (.cons ok_laws_toShape_vg (.cons ok_laws_toKeyS_vg .nil)) Tryz.func9 (by kernel_rfl)) rfl fun (x : (((Str) × (ShapeD) × (List KeyD)) × Unit)) wf hg K h => by
  obtain ⟨⟨s, ns, ks⟩, ⟨⟩⟩ := x
  replace hg : (fitT (s, ns, ks)) = true := hg
  replace h : K (tup (valRs [.agg pT] (((s, ns, ks, ()), ())) 0)) (thRs [.agg pT] (((s, ns, ks, ()), ()))) := h
  rw [w_laws_toThing_vg s ns ks K]
  unfold fitT at hg
  simp only [Bool.and_eq_true] at hg
  rw [hg.1, hg.2]
  exact h

/-! laws.markThing -/
noncomputable def c_laws_markThing : Ctx := mkC Tryz.prog tyT [] [] [(37, s_laws_markShape), (38, s_laws_markKeyS)] 14 (fun _ => none) 2
theorem w_laws_markThing (s : Str) (ns : ShapeD) (ks : List KeyD) (k : Int) (K : V → Heap → Prop) : wpFnO c_laws_markThing Tryz.f14 (ofCells true (encP [.imm .str, .deep tN, .own tK] (s, ns, ks, ()) 0) :: encAs [.cell tI] (k, ())) (thP [.imm .str, .deep tN, .own tK] (s, ns, ks, ())) K =
  cond (decide (0 ≤ k) && decide (k + (↑(sumW wN ns) : Int) ≤ 8388608))
    (cond ((fun xs x => decide (0 ≤ Prod.fst x) && decide (Prod.fst x + (↑(sumW wK xs) : Int) ≤ 8388608)) ks (k + (↑(sumW wN ns) : Int), ()))
      (K (.int .i64 (k + (↑(sumW wN ns) : Int) + (↑(sumW wK ks) : Int))) [(.dp 0 0 tN (markL mkN wN k ns)), (.sl 0 tK (markL mkK wK (k + (↑(sumW wN ns) : Int)) ks))])
      (False))
    (False) := by kernel_rfl
noncomputable def s_laws_markThing : Sm := semM true [.imm .str, .deep tN, .own tK] [.cell tI] (fun y x => match y, x with | (s, ns, ks, _), (k, _) => decide (0 ≤ k) && decide (k + sumW wN ns + sumW wK ks ≤ 8388608)) fun y x => match y, x with | (s, ns, ks, _), (k, _) => (.int .i64 (k + sumW wN ns + sumW wK ks), (s, markL mkN wN k ns, markL mkK wK (k + sumW wN ns) ks, ()))
theorem ok_laws_markThing : FnOkL Tryz.prog 14 s_laws_markThing := fnOkO_mark (fnOkO_runC (C := c_laws_markThing) rfl mixed .nil .nil (.cons ok_laws_markShape (.cons ok_laws_markKeyS .nil)) Tryz.func14 (by kernel_rfl)) (by first | exact .inl rfl | exact .inr (.inl ⟨_, rfl⟩) | exact .inr (.inr ⟨_, rfl⟩)) fun (y : ((Str) × (ShapeD) × (List KeyD) × Unit)) (x : ((Int) × Unit)) wf hg K h => by
  obtain ⟨k, ⟨⟩⟩ := x
  obtain ⟨s, ns, ks, ⟨⟩⟩ := y
  replace hg : (decide (0 ≤ k) && decide (k + sumW wN ns + sumW wK ks ≤ 8388608)) = true := hg
  replace h : K (.int .i64 (k + sumW wN ns + sumW wK ks)) (thP [.imm .str, .deep tN, .own tK] ((s, markL mkN wN k ns, markL mkK wK (k + sumW wN ns) ks, ()))) := h
  rw [w_laws_markThing s ns ks k K]
  simp only [Bool.and_eq_true, decide_eq_true_eq] at hg
  simp only [d_t (show 0 ≤ k by omega), d_t (show k + (sumW wN ns : Int) ≤ 8388608 by omega), d_t (show 0 ≤ k + (sumW wN ns : Int) by omega), d_t (show k + (sumW wN ns : Int) + (sumW wK ks : Int) ≤ 8388608 by omega), Bool.and_self, cond_true]
  exact h


theorem mkN_idem (k : Int) (x : NodeD) : mkN k (mkN k x) = mkN k x := by unfold mkN; simp only [markF_len]
theorem wN_mk (k : Int) (x : NodeD) : wN (mkN k x) = wN x := by unfold wN mkN; simp only [markF_len]
theorem mkK_idem (k : Int) (x : KeyD) : mkK k (mkK k x) = mkK k x := rfl
theorem wK_mk (k : Int) (x : KeyD) : wK (mkK k x) = wK x := rfl
theorem sumWN_cons (x : NodeD) (s : ShapeD) : sumW wN (x :: s) = 3 + x.2.2.2.length + sumW wN s := by simp [sumW, wN]
theorem sumWN_le : ∀ s : ShapeD, sumW wN s ≤ 3 * wShape s
  | [] => by simp [sumW]
  | x :: s => by
    have := sumWN_le s
    rw [sumWN_cons]
    have e : wShape (x :: s) = wShape s + 1 + wNode x := by simp [wShape, wList]; omega
    have e2 : wNode x = x.2.2.2.length := rfl
    omega
theorem sumWK (ks : List KeyD) : sumW wK ks = 4 * ks.length := by
  induction ks with
  | nil => rfl
  | cons x s ih => simp only [sumW, List.map_cons, List.sum_cons, List.length_cons] at *; rw [ih]; unfold wK; omega
theorem fitT_of {t : ThingD} (h : wThing t ≤ 1048576) : fitT t = true := by
  unfold fitT
  unfold wThing at h
  rw [fitS_of (by omega), Bool.true_and]
  exact decide_eq_true (by omega)
/-- The numbers that a thing is marked with are few. -/
theorem markT_le {t : ThingD} (h : wThing t ≤ 1048576) : sumW wN t.2.1 + sumW wK t.2.2 ≤ 4194304 := by
  have h1 := sumWN_le t.2.1
  rw [sumWK]
  unfold wThing at h
  omega

end Go.Proofs.YtkppbbaibjhkaaaGreat
