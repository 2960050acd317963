/- A thing that is put into a scene, and scenes that are merged. -/
import Derived.Test.YtmkomfhnomnbiaaPutP
import Derived.Test.YtmkomfhnomnbiaaEvInsT
set_option linter.unusedVariables false
set_option linter.unusedSimpArgs false
set_option maxRecDepth 100000
namespace Go.Proofs.Ytmkomfhnomnbiaa
open Go.Ev

/-! spec.l10Put -/
noncomputable def a_spec_l10Put : Nat → Option Ann := fun n => bif Nat.beq n 4 then some ⟨[0,1,4,5,6,7],0,true⟩ else none
noncomputable def c_spec_l10Put : Ctx := mkC Try.prog tyT [] [] [(41, s_spec_l10Own)] 72 a_spec_l10Put 0 false [] true
noncomputable def gp_spec_l10Put : List (List (Option Ty)) := List.map giveR [.agg [.deep tT]]
noncomputable def fr_spec_l10Put_4 (ts zs : List ThingD) (s : Str) (ns : ShapeD) (ks : List KeyD) (p : Bool) (i : Int) : Fr := [(0, .ref [.vec tT ts] 0), (1, .ref [.str s, .vec tN ns, .vec tK ks] 0), (4, .ptr 0 0), (5, .ptr 1 0), (6, .bool p), (7, .int .i64 i)]
noncomputable def hp_spec_l10Put_4 (ts zs : List ThingD) (s : Str) (ns : ShapeD) (ks : List KeyD) (p : Bool) (i : Int) : Heap := [.box [.nils], .box [.dob 2 0], .dp 0 0 tT zs]
theorem r_spec_l10Put_4 (ts zs : List ThingD) (s : Str) (ns : ShapeD) (ks : List KeyD) (p : Bool) (i : Int) (Kn : Fr → Heap → Prop) (K : V → Heap → Prop) : round c_spec_l10Put ⟨[0,1,4,5,6,7],0,true⟩ (lb c_spec_l10Put 4 Try.f25) (fr_spec_l10Put_4 ts zs s ns ks p i) (hp_spec_l10Put_4 ts zs s ns ks p i) Kn (lkG gp_spec_l10Put c_spec_l10Put 4 Try.f25 [] K) =
  cond (decide (i < (↑(List.length ts) : Int)))
    (cond (decide (0 ≤ i))
      ((match ts[Int.toNat i]? with
        | some y0 => cond (!p)
          (cond (!Op.bytesLess (Prod.fst y0) s)
            (cond (fitT (s, ns, ks) && !List.isEmpty ks)
              (cond (decide ((List.length zs + 1) * 64 ≤ 140737488355328))
                (cond (!bytesEq (Prod.fst y0) s)
                  (cond (fitT y0 && !List.isEmpty (Prod.snd (Prod.snd y0)))
                    (cond (decide ((List.length (zs ++ [(s, ns, ks)]) + 1) * 64 ≤ 140737488355328))
                      (Kn [(0, (.ref [(.vec tT (ts))] 0)), (1, (.ref [(.str (s)), (.vec tN (ns)), (.vec tK (ks))] 0)), (4, (.ptr 0 0)), (5, (.ptr 1 0)), (6, (.bool true)), (7, (.int .i64 (IntKind.wrap IntKind.i64 (i + 1))))] [(.box [.nils]), (.box [(.dob 2 0)]), (.dp 0 0 tT (zs ++ [(s, ns, ks)] ++ [y0]))])
                      (False))
                    (False))
                  (Kn [(0, (.ref [(.vec tT (ts))] 0)), (1, (.ref [(.str (s)), (.vec tN (ns)), (.vec tK (ks))] 0)), (4, (.ptr 0 0)), (5, (.ptr 1 0)), (6, (.bool true)), (7, (.int .i64 (IntKind.wrap IntKind.i64 (i + 1))))] [(.box [.nils]), (.box [(.dob 2 0)]), (.dp 0 0 tT (zs ++ [(s, ns, ks)]))]))
                (False))
              (False))
            (cond (!bytesEq (Prod.fst y0) s)
              (cond (fitT y0 && !List.isEmpty (Prod.snd (Prod.snd y0)))
                (cond (decide ((List.length zs + 1) * 64 ≤ 140737488355328))
                  (Kn [(0, (.ref [(.vec tT (ts))] 0)), (1, (.ref [(.str (s)), (.vec tN (ns)), (.vec tK (ks))] 0)), (4, (.ptr 0 0)), (5, (.ptr 1 0)), (6, (.bool (p))), (7, (.int .i64 (IntKind.wrap IntKind.i64 (i + 1))))] [(.box [.nils]), (.box [(.dob 2 0)]), (.dp 0 0 tT (zs ++ [y0]))])
                  (False))
                (False))
              (Kn [(0, (.ref [(.vec tT (ts))] 0)), (1, (.ref [(.str (s)), (.vec tN (ns)), (.vec tK (ks))] 0)), (4, (.ptr 0 0)), (5, (.ptr 1 0)), (6, (.bool (p))), (7, (.int .i64 (IntKind.wrap IntKind.i64 (i + 1))))] [(.box [.nils]), (.box [(.dob 2 0)]), (.dp 0 0 tT (zs))])))
          (cond (!bytesEq (Prod.fst y0) s)
            (cond (fitT y0 && !List.isEmpty (Prod.snd (Prod.snd y0)))
              (cond (decide ((List.length zs + 1) * 64 ≤ 140737488355328))
                (Kn [(0, (.ref [(.vec tT (ts))] 0)), (1, (.ref [(.str (s)), (.vec tN (ns)), (.vec tK (ks))] 0)), (4, (.ptr 0 0)), (5, (.ptr 1 0)), (6, (.bool (p))), (7, (.int .i64 (IntKind.wrap IntKind.i64 (i + 1))))] [(.box [.nils]), (.box [(.dob 2 0)]), (.dp 0 0 tT (zs ++ [y0]))])
                (False))
              (False))
            (Kn [(0, (.ref [(.vec tT (ts))] 0)), (1, (.ref [(.str (s)), (.vec tN (ns)), (.vec tK (ks))] 0)), (4, (.ptr 0 0)), (5, (.ptr 1 0)), (6, (.bool (p))), (7, (.int .i64 (IntKind.wrap IntKind.i64 (i + 1))))] [(.box [.nils]), (.box [(.dob 2 0)]), (.dp 0 0 tT (zs))]))
        | none => False))
      (False))
    (cond (!p)
      (cond (fitT (s, ns, ks) && !List.isEmpty ks)
        (cond (decide ((List.length zs + 1) * 64 ≤ 140737488355328))
          (K (.agg [(.dob 0 0)]) [(.dp 0 0 tT (zs ++ [(s, ns, ks)]))])
          (False))
        (False))
      (K (.agg [(.dob 0 0)]) [(.dp 0 0 tT (zs))])) := by kernel_rfl
theorem w_spec_l10Put (ts : List ThingD) (s : Str) (ns : ShapeD) (ks : List KeyD) (K : V → Heap → Prop) : wpFnG gp_spec_l10Put c_spec_l10Put Try.f25 (encAs [.ref (.slice tT), .ref tT] (ts, (s, ns, ks), ())) [] K =
  LoopE c_spec_l10Put ⟨[0, 1, 4, 5, 6, 7], 0, true⟩ (lb c_spec_l10Put 4 Try.f25) [(0, (.ref [(.vec tT (ts))] 0)), (1, (.ref [(.str (s)), (.vec tN (ns)), (.vec tK (ks))] 0)), (4, (.ptr 0 0)), (5, (.ptr 1 0)), (6, (.bool false)), (7, (.int .i64 0))] [(.box [.nils]), (.box [(.dob 2 0)]), (.dp 0 0 tT ([]))] (lkG gp_spec_l10Put c_spec_l10Put 4 Try.f25 [] K) := by kernel_rfl
noncomputable def s_spec_l10Put : Sm := semV [.ref (.slice tT), .ref tT] [.agg [.deep tT]] (fun x => match x with | (ts, (s, ns, ks), _) => decide (ts.length ≤ 1048576) && (upB ts && thingB (s, ns, ks))) fun x => match x with | (ts, (s, ns, ks), _) => ((putF ts (s, ns, ks), ()), ())
theorem ok_spec_l10Put : FnOkL Try.prog 25 s_spec_l10Put := fnOkO_give (fnOkO_runG (C := c_spec_l10Put) gp_spec_l10Put rfl mixed .nil .nil (.cons ok_spec_l10Own .nil) Try.func25 (by kernel_rfl)) rfl fun (x : ((List ThingD) × ((Str) × (ShapeD) × (List KeyD)) × Unit)) wf hg K h => by
  obtain ⟨ts, ⟨s, ns, ks⟩, ⟨⟩⟩ := x
  replace hg : (decide (ts.length ≤ 1048576) && (upB ts && thingB (s, ns, ks))) = true := hg
  replace h : K (tup (valRs [.agg [.deep tT]] (((putF ts (s, ns, ks), ()), ())) 0)) (thRs [.agg [.deep tT]] (((putF ts (s, ns, ks), ()), ()))) := h
  rw [w_spec_l10Put ts s ns ks K]
  simp only [Bool.and_eq_true, decide_eq_true_eq] at hg
  obtain ⟨g1, g2, g3⟩ := hg
  obtain ⟨q1, q2⟩ := up_iff.1 g2
  obtain ⟨t1, t2, _⟩ := thing_fit g3
  have hfit : (fitT (s, ns, ks) && !ks.isEmpty) = true := by rw [t1]; exact t2
  have hf := put_fold (s, ns, ks) ts [] q2
  rw [List.nil_append] at hf
  rw [← hf] at h
  refine loop_run (σ := Nat) (fun i => fr_spec_l10Put_4 ts [] s ns ks ((ts.take i).foldl (putStep (s, ns, ks)) ([], false)).2 i) (fun i => hp_spec_l10Put_4 ts ((ts.take i).foldl (putStep (s, ns, ks)) ([], false)).1 s ns ks false i) (fun i => i ≤ ts.length) (fun i => ts.length - i) ?_ 0 (Nat.zero_le _)
  intro i hi Kn hk
  have hzl := foldStep_len (s, ns, ks) (ts.take i) ([], false)
  have htl : (ts.take i).length = i := by rw [List.length_take]; omega
  rw [htl, List.length_nil] at hzl
  obtain ⟨q, hq⟩ : ∃ q, q = (ts.take i).foldl (putStep (s, ns, ks)) ([], false) := ⟨_, rfl⟩
  rw [← hq] at hzl ⊢
  obtain ⟨zs, p⟩ := q
  simp only at hzl ⊢
  rw [show fr_spec_l10Put_4 ts [] s ns ks p i = fr_spec_l10Put_4 ts zs s ns ks p i from rfl, show hp_spec_l10Put_4 ts zs s ns ks false i = hp_spec_l10Put_4 ts zs s ns ks p i from rfl, r_spec_l10Put_4 ts zs s ns ks p i Kn K]
  by_cases hlt : i < ts.length
  · have hxv := q1 _ (List.getElem_mem hlt)
    obtain ⟨x1, x2, _⟩ := thing_fit hxv
    have go := hk (i + 1) hlt (by omega)
    rw [take_one hlt, List.foldl_append, ← hq] at go
    simp only [List.foldl_cons, List.foldl_nil] at go
    simp only [d_lt hlt, d_0, cond_true, Int.toNat_natCast, get_lt hlt, hfit, List.length_append, List.length_singleton, d_t (show (zs.length + 1) * 64 ≤ 140737488355328 by omega), d_t (show (zs.length + 1 + 1) * 64 ≤ 140737488355328 by omega)]
    rw [i64_of (show -9223372036854775808 ≤ (i : Int) + 1 by omega) (by omega)]
    generalize ts[i]'hlt = x at *
    rw [show (fitT x && !x.2.2.isEmpty) = true by rw [x1]; exact x2]
    unfold putStep at go
    simp only [bytesEq] at go ⊢
    revert go
    cases p <;> cases Op.bytesLess x.1 s <;> cases x.1 == s <;> exact id
  · have : i = ts.length := by omega
    subst this
    rw [List.take_length] at hq
    rw [← hq] at h
    simp only [d_nlt hlt, cond_false, hfit, d_t (show (zs.length + 1) * 64 ≤ 140737488355328 by omega)]
    revert h
    unfold putOut
    cases p <;> exact id



noncomputable def gp_slices_Clone__implThing : List (List (Option Ty)) := List.map giveR [.cell (.own (tT))]
noncomputable def c_slices_Clone__implThing : Ctx := mkC Try.prog tyT [] [] [] 8 (fun _ => none) 0
theorem w_slices_Clone__implThing (x : (tT).den) (xs : List (tT).den) (K : V → Heap → Prop) : wpFnG gp_slices_Clone__implThing c_slices_Clone__implThing Try.f19 [.vec (tT) (x :: xs)] [] K =
  cond (decide ((0 + List.length (x :: xs)) * 64 ≤ 140737488355328))
    (K (.obj 0 0) [(.sl 0 tT ([] ++ x :: xs))])
    (False) := by kernel_rfl
theorem w2_slices_Clone__implThing (b : Bool) (K : V → Heap → Prop) : wpFnG gp_slices_Clone__implThing c_slices_Clone__implThing Try.f19 [.empty b false] [] K =
  cond (b)
    (K (.obj 0 0) [(.sl 0 tT ([]))])
    (K (.obj 0 0) [(.sl 0 tT ([] ++ []))]) := by kernel_rfl
noncomputable def s_slices_Clone__implThing : Sm := semV [.cell (.slice (tT))] [.cell (.own (tT))] (fun x => decide (x.1.length ≤ 1048576)) fun x => (x.1, ())
theorem ok_slices_Clone__implThing : FnOkL Try.prog 19 s_slices_Clone__implThing := fnOkO_clone (fnOkO_runG (C := c_slices_Clone__implThing) gp_slices_Clone__implThing rfl mixed .nil .nil .nil Try.func19 (by kernel_rfl)) 1048576
  (fun x xs K hl h => by
    rw [w_slices_Clone__implThing x xs K, d_t (by rw [List.length_cons]; omega)]
    exact h)
  (fun b K h => by
    rw [w2_slices_Clone__implThing b K]
    cases b <;> exact h)

abbrev s_slices_Insert__implThing : Sm := sIns tT
theorem ok_slices_Insert__implThing : FnOkL Try.prog 34 (sIns tT) := ok_Ins rfl (by decide)

/-! impl.putThing -/
noncomputable def c_impl_putThing : Ctx := mkC Try.prog tyT [(20, s_impl_find)] [] [(34, s_slices_Insert__implThing)] 26 (fun _ => none) 0
noncomputable def gp_impl_putThing : List (List (Option Ty)) := List.map giveR [.cell (.own tT)]
theorem w_impl_putThing (ts : List ThingD) (s : Str) (ns : ShapeD) (ks : List KeyD) (K : V → Heap → Prop) : wpFnT gp_impl_putThing c_impl_putThing Try.f18 (ofCells false (encP [.own tT] (ts, ()) 0) :: encAs [.agg tT] ((s, ns, ks), ())) (thP [.own tT] (ts, ())) K =
  cond (findB ts s)
    (cond (decide (0 ≤ (↑(findN ts s) : Int)) && Nat.blt (Int.toNat (↑(findN ts s) : Int)) (List.length ts))
      ((match ts[Int.toNat (↑(findN ts s) : Int)]? with
        | some x0 => K (.obj 0 0) [(.sl 0 tT (List.set ts (Int.toNat (↑(findN ts s) : Int)) (s, ns, ks)))]
        | none => False))
      (False))
    (cond (decide (0 ≤ (↑(findN ts s) : Int)) && (decide ((↑(findN ts s) : Int) ≤ (↑(List.length ts) : Int)) && decide ((List.length ts + 1) * 64 ≤ 140737488355328)))
      (K (.obj 0 0) [(.sl 0 tT (insL ts (Int.toNat (↑(findN ts s) : Int)) (s, ns, ks)))])
      (False)) := by kernel_rfl
noncomputable def s_impl_putThing : Sm := semK false [.own tT] [.agg tT] [.cell (.own tT)] (fun y x => match y, x with | (ts, _), ((s, ns, ks), _) => upB ts && decide (ts.length ≤ 1048576)) fun y x => match y, x with | (ts, _), ((s, ns, ks), _) => (putF ts (s, ns, ks), ())
theorem ok_impl_putThing : FnOkL Try.prog 18 s_impl_putThing := fnOkO_take (fnTk_run (C := c_impl_putThing) gp_impl_putThing rfl mixed (.cons ok_impl_find .nil) .nil (.cons ok_slices_Insert__implThing .nil) Try.func18 (by kernel_rfl)) (by first | exact .inl rfl | exact .inr (.inl ⟨_, rfl⟩) | exact .inr (.inr ⟨_, rfl⟩)) rfl fun (y : ((List ThingD) × Unit)) (x : (((Str) × (ShapeD) × (List KeyD)) × Unit)) wf hg K h => by
  obtain ⟨⟨s, ns, ks⟩, ⟨⟩⟩ := x
  obtain ⟨ts, ⟨⟩⟩ := y
  replace hg : (upB ts && decide (ts.length ≤ 1048576)) = true := hg
  replace h : K (tup (valRs [.cell (.own tT)] ((putF ts (s, ns, ks), ())) 0)) (thRs [.cell (.own tT)] ((putF ts (s, ns, ks), ()))) := h
  rw [w_impl_putThing ts s ns ks K]
  simp only [Bool.and_eq_true, decide_eq_true_eq] at hg
  obtain ⟨g1, g2⟩ := hg
  obtain ⟨f1, f2⟩ := putF_find (s, ns, ks) g1
  simp only [Int.toNat_natCast] at f1 f2 ⊢
  cases hb : findB ts s with
  | true =>
    obtain ⟨e1, e2⟩ := f1 hb
    simp only [cond_true, d_0, blt_t e1, Bool.and_self, get_lt e1]
    rw [e2]
    exact h
  | false =>
    obtain ⟨e1, e2⟩ := f2 hb
    simp only [cond_false]
    rw [e2]
    exact cond_intro (by simp only [Bool.and_eq_true, decide_eq_true_eq]; omega) h


/-! impl.PutThing -/
noncomputable def c_impl_PutThing_vg : Ctx := mkC Try.prog tyT [(11, s_impl_ValidScene), (16, s_impl_Thing_ok)] [] [(17, s_impl_sceneOf), (18, s_impl_putThing), (19, s_slices_Clone__implThing)] 22 (fun _ => none) 0
noncomputable def gp_impl_PutThing_vg : List (List (Option Ty)) := List.map giveR [.agg [.deep tT], .cell (.imm .bool)]
theorem w_impl_PutThing_vg (ts : List ThingD) (s : Str) (ns : ShapeD) (ks : List KeyD) (K : V → Heap → Prop) : wpFnG gp_impl_PutThing_vg c_impl_PutThing_vg Try.f7 (encAs [.agg (.slice tT), .agg tT] (ts, (s, ns, ks), ())) [] K =
  cond (!sceneB ts)
    (K (.tuple [(.agg [(.dob 0 0)]), (.bool false)]) [(.dp 0 0 tT ([]))])
    (cond (!thingB (s, ns, ks))
      (K (.tuple [(.agg [(.dob 0 0)]), (.bool false)]) [(.dp 0 0 tT ([]))])
      (cond (decide (List.length ts ≤ 1048576))
        (cond (upB ts && decide (List.length ts ≤ 1048576))
          (cond (fitC (putF ts (s, ns, ks)))
            (K (.tuple [(.agg [(.dob 0 0)]), (.bool (sceneB (putF ts (s, ns, ks))))]) [(.dp 0 0 tT (bif sceneB (putF ts (s, ns, ks)) then putF ts (s, ns, ks) else []))])
            (False))
          (False))
        (False))) := by kernel_rfl
noncomputable def s_impl_PutThing_vg : Sm := semV [.agg (.slice tT), .agg tT] [.agg [.deep tT], .cell (.imm .bool)] (fun x => match x with | (ts, (s, ns, ks), _) => true) fun x => match x with | (ts, (s, ns, ks), _) => ((putR ts (s, ns, ks), ()), putOk ts (s, ns, ks), ())
theorem ok_impl_PutThing_vg : FnOkL Try.prog 7 s_impl_PutThing_vg := fnOkO_give (fnOkO_runG (C := c_impl_PutThing_vg) gp_impl_PutThing_vg rfl mixed (.cons ok_impl_ValidScene (.cons ok_impl_Thing_ok .nil)) .nil (.cons ok_impl_sceneOf (.cons ok_impl_putThing (.cons ok_slices_Clone__implThing .nil))) Try.func7 (by kernel_rfl)) rfl fun (x : ((List ThingD) × ((Str) × (ShapeD) × (List KeyD)) × Unit)) wf hg K h => by
  obtain ⟨ts, ⟨s, ns, ks⟩, ⟨⟩⟩ := x
  replace h : K (tup (valRs [.agg [.deep tT], .cell (.imm .bool)] (((putR ts (s, ns, ks), ()), putOk ts (s, ns, ks), ())) 0)) (thRs [.agg [.deep tT], .cell (.imm .bool)] (((putR ts (s, ns, ks), ()), putOk ts (s, ns, ks), ()))) := h
  rw [w_impl_PutThing_vg ts s ns ks K]
  unfold putR at h
  cases h1 : sceneB ts with
  | false => simp only [putOk, h1, Bool.false_and, cond_false, Bool.not_false, cond_true] at h ⊢; exact h
  | true =>
    have h1' := h1
    rw [scene_up] at h1'
    simp only [Bool.and_eq_true, decide_eq_true_eq] at h1'
    cases h2 : thingB (s, ns, ks) with
    | false => simp only [putOk, h1, h2, Bool.false_and, Bool.true_and, cond_false, Bool.not_false, Bool.not_true, cond_true] at h ⊢; exact h
    | true =>
      have hl := putF_len ts (s, ns, ks)
      simp only [putOk, h1, h2, Bool.true_and, cond_false, Bool.not_true, h1'.1, up_fit (putF_up h1'.1 h2) (by omega), cond_true] at h ⊢
      exact cond_intro (decide_eq_true (by omega)) (cond_intro (decide_eq_true (by omega)) h)
noncomputable def s_impl_PutThing_vg_vv : Sm := semG [.agg (.slice tT), .agg tT] (fun x => match x with | (ts, (s, ns, ks), _) => true) fun x => tup (vecRs [.agg [.deep tT], .cell (.imm .bool)] (match x with | (ts, (s, ns, ks), _) => ((putR ts (s, ns, ks), ()), putOk ts (s, ns, ks), ())))
theorem ok_impl_PutThing_vg_vv : FnOk Try.prog 7 s_impl_PutThing_vg_vv := fnOk_of_give ok_impl_PutThing_vg.1


/-! impl.MergeScenes -/
noncomputable def a_impl_MergeScenes_vg : Nat → Option Ann := fun n => bif Nat.beq n 5 then some ⟨[4,6,22,23,24],0,true⟩ else none
noncomputable def c_impl_MergeScenes_vg : Ctx := mkC Try.prog tyT [(11, s_impl_ValidScene)] [] [(17, s_impl_sceneOf), (18, s_impl_putThing), (19, s_slices_Clone__implThing)] 36 a_impl_MergeScenes_vg 0
noncomputable def gp_impl_MergeScenes_vg : List (List (Option Ty)) := List.map giveR [.agg [.deep tT], .cell (.imm .bool)]
noncomputable def fr_impl_MergeScenes_vg_5 (us zs : List ThingD) (n i : Int) : Fr := [(4, .ptr 0 0), (6, .obj 1 0), (22, .vec tT us), (23, .int .i64 n), (24, .int .i64 i)]
noncomputable def hp_impl_MergeScenes_vg_5 (us zs : List ThingD) (n i : Int) : Heap := [.box [.nils], .sl 0 tT zs]
theorem r_impl_MergeScenes_vg_5 (us zs : List ThingD) (n i : Int) (Kn : Fr → Heap → Prop) (K : V → Heap → Prop) : round c_impl_MergeScenes_vg ⟨[4,6,22,23,24],0,true⟩ (lb c_impl_MergeScenes_vg 5 Try.f10) (fr_impl_MergeScenes_vg_5 us zs n i) (hp_impl_MergeScenes_vg_5 us zs n i) Kn (lkG gp_impl_MergeScenes_vg c_impl_MergeScenes_vg 5 Try.f10 [] K) =
  cond (decide (i < n))
    (cond (decide (0 ≤ i))
      ((match us[Int.toNat i]? with
        | some y0 => cond (upB zs && decide (List.length zs ≤ 1048576))
          (Kn [(4, (.ptr 0 0)), (6, (.obj 1 0)), (22, (.vec tT (us))), (23, (.int .i64 (n))), (24, (.int .i64 (IntKind.wrap IntKind.i64 (i + 1))))] [(.box [.nils]), (.sl 0 tT (putF zs y0))])
          (False)
        | none => False))
      (False))
    (cond (fitC zs)
      (K (.tuple [(.agg [(.dob 0 0)]), (.bool (sceneB zs))]) [(.dp 0 0 tT (bif sceneB zs then zs else []))])
      (False)) := by kernel_rfl
theorem w_impl_MergeScenes_vg (ts us : List ThingD) (K : V → Heap → Prop) : wpFnG gp_impl_MergeScenes_vg c_impl_MergeScenes_vg Try.f10 (encAs [.agg (.slice tT), .agg (.slice tT)] (ts, us, ())) [] K =
  cond (!sceneB ts)
    (K (.tuple [(.agg [(.dob 0 0)]), (.bool false)]) [(.dp 0 0 tT ([]))])
    (cond (!sceneB us)
      (K (.tuple [(.agg [(.dob 0 0)]), (.bool false)]) [(.dp 0 0 tT ([]))])
      (cond (decide (List.length ts ≤ 1048576))
        (LoopE c_impl_MergeScenes_vg ⟨[4, 6, 22, 23, 24], 0, true⟩ (lb c_impl_MergeScenes_vg 5 Try.f10) [(4, (.ptr 0 0)), (6, (.obj 1 0)), (22, (.vec tT (us))), (23, (.int .i64 ((↑(List.length us) : Int)))), (24, (.int .i64 0))] [(.box [.nils]), (.sl 0 tT (ts))] (lkG gp_impl_MergeScenes_vg c_impl_MergeScenes_vg 5 Try.f10 [] K))
        (False))) := by kernel_rfl
noncomputable def s_impl_MergeScenes_vg : Sm := semV [.agg (.slice tT), .agg (.slice tT)] [.agg [.deep tT], .cell (.imm .bool)] (fun x => match x with | (ts, us, _) => true) fun x => match x with | (ts, us, _) => ((mergeR ts us, ()), mergeOk ts us, ())
theorem ok_impl_MergeScenes_vg : FnOkL Try.prog 10 s_impl_MergeScenes_vg := fnOkO_give (fnOkO_runG (C := c_impl_MergeScenes_vg) gp_impl_MergeScenes_vg rfl mixed (.cons ok_impl_ValidScene .nil) .nil (.cons ok_impl_sceneOf (.cons ok_impl_putThing (.cons ok_slices_Clone__implThing .nil))) Try.func10 (by kernel_rfl)) rfl fun (x : ((List ThingD) × (List ThingD) × Unit)) wf hg K h => by
  obtain ⟨ts, us, ⟨⟩⟩ := x
  replace h : K (tup (valRs [.agg [.deep tT], .cell (.imm .bool)] (((mergeR ts us, ()), mergeOk ts us, ())) 0)) (thRs [.agg [.deep tT], .cell (.imm .bool)] (((mergeR ts us, ()), mergeOk ts us, ()))) := h
  rw [w_impl_MergeScenes_vg ts us K]
  unfold mergeR at h
  cases h1 : sceneB ts with
  | false => simp only [mergeOk, h1, Bool.false_and, cond_false, Bool.not_false, cond_true] at h ⊢; exact h
  | true =>
    have h1' := h1
    rw [scene_up] at h1'
    simp only [Bool.and_eq_true, decide_eq_true_eq] at h1'
    cases h2 : sceneB us with
    | false => simp only [mergeOk, h1, h2, Bool.false_and, Bool.true_and, cond_false, Bool.not_false, Bool.not_true, cond_true] at h ⊢; exact h
    | true =>
      have h2' := h2
      rw [scene_up] at h2'
      simp only [Bool.and_eq_true, decide_eq_true_eq] at h2'
      simp only [mergeOk, h1, h2, Bool.true_and, cond_false, Bool.not_true, h1'.1] at h ⊢
      have q2 := (up_iff.1 h2'.1).1
      refine cond_intro (decide_eq_true (by omega)) ?_
      refine loop_run (σ := Nat) (fun i => fr_impl_MergeScenes_vg_5 us [] us.length i) (fun i => hp_impl_MergeScenes_vg_5 us (mergeL ts (us.take i)) us.length i) (fun i => i ≤ us.length) (fun i => us.length - i) ?_ 0 (Nat.zero_le _)
      intro i hi Kn hk
      obtain ⟨u1, u2⟩ := merge_up (us := us.take i) h1'.1 fun u hu => q2 u (List.mem_of_mem_take hu)
      have htl : (us.take i).length = i := by rw [List.length_take]; omega
      rw [htl] at u2
      rw [show fr_impl_MergeScenes_vg_5 us [] us.length i = fr_impl_MergeScenes_vg_5 us (mergeL ts (us.take i)) us.length i from rfl, r_impl_MergeScenes_vg_5 us (mergeL ts (us.take i)) us.length i Kn K]
      by_cases hlt : i < us.length
      · have go := hk (i + 1) hlt (by omega)
        rw [merge_take hlt] at go
        simp only [d_lt hlt, d_0, cond_true, Int.toNat_natCast, get_lt hlt, u1]
        rw [i64_of (show -9223372036854775808 ≤ (i : Int) + 1 by omega) (by omega)]
        exact cond_intro (by rw [Bool.true_and]; exact decide_eq_true (by omega)) go
      · have : i = us.length := by omega
        subst this
        simp only [d_nlt hlt, cond_false]
        rw [List.take_length] at u1 u2 ⊢
        rw [up_fit u1 (by omega)]
        exact h
noncomputable def s_impl_MergeScenes_vg_vv : Sm := semG [.agg (.slice tT), .agg (.slice tT)] (fun x => match x with | (ts, us, _) => true) fun x => tup (vecRs [.agg [.deep tT], .cell (.imm .bool)] (match x with | (ts, us, _) => ((mergeR ts us, ()), mergeOk ts us, ())))
theorem ok_impl_MergeScenes_vg_vv : FnOk Try.prog 10 s_impl_MergeScenes_vg_vv := fnOk_of_give ok_impl_MergeScenes_vg.1

end Go.Proofs.Ytmkomfhnomnbiaa
