/- The law of scenes into which things are put. -/
import Derived.Test.YtmkomfhnomnbiaaDrawW
import Derived.Test.YtmkomfhnomnbiaaPut
import Derived.Test.YtmkomfhnomnbiaaDrop
import Derived.Test.YtmkomfhnomnbiaaSame
set_option linter.unusedVariables false
set_option linter.unusedSimpArgs false
set_option maxRecDepth 100000
namespace Go.Proofs.Ytmkomfhnomnbiaa
open Go.Ev

/-! spec.l10DrawOk -/
noncomputable def a_spec_l10DrawOk : Nat → Option Ann := fun n => bif Nat.beq n 3 then some ⟨[0,2,3,4],1,true⟩ else none
noncomputable def c_spec_l10DrawOk : Ctx := mkC Try.prog tyT [] [] [(24, s_spec_l00Src_pick), (15, s_spec_l10DrawThing), (25, s_spec_l10Put)] 18 a_spec_l10DrawOk 1 false [] true
noncomputable def gp_spec_l10DrawOk : List (List (Option Ty)) := List.map giveR [.agg [.deep tT]]
noncomputable def fr_spec_l10DrawOk_3 (s : SrcD) (ts : List ThingD) (k : Int) : Fr := [(0, .ptr 0 0), (2, .ptr 1 0), (3, .ptr 2 0), (4, .int .i64 k)]
noncomputable def hp_spec_l10DrawOk_3 (s : SrcD) (ts : List ThingD) (k : Int) : Heap := [.box (enc tSrc s), .box [.nils], .box [.dob 3 0], .dp 0 0 tT ts]
theorem r_spec_l10DrawOk_3 (s : SrcD) (ts : List ThingD) (k : Int) (Kn : Fr → Heap → Prop) (K : V → Heap → Prop) : round c_spec_l10DrawOk ⟨[0,2,3,4],1,true⟩ (lb c_spec_l10DrawOk 3 Try.f14) (fr_spec_l10DrawOk_3 s ts k) (hp_spec_l10DrawOk_3 s ts k) Kn (lkG gp_spec_l10DrawOk c_spec_l10DrawOk 3 Try.f14 [.box []] K) =
  cond (decide (k > 0))
    (cond (inS 300000 s)
      (cond (decide (List.length ts ≤ 1048576) && (upB ts && thingB (nameAt s, shapeV (pickS s 8), keysV (shapeS (pickS s 8)))))
        (Kn [(0, (.ptr 0 0)), (2, (.ptr 1 0)), (3, (.ptr 2 0)), (4, (.int .i64 (IntKind.wrap IntKind.i64 (k - 1))))] [(.box [(.vec (.int .u8) (Prod.fst (thingS s))), (.int .i64 (Prod.fst (Prod.snd (thingS s)))), (.int .u64 (Prod.snd (Prod.snd (thingS s))))]), (.box [.nils]), (.box [(.dob 3 0)]), (.dp 0 0 tT (putF ts (nameAt s, shapeV (pickS s 8), keysV (shapeS (pickS s 8)))))])
        (False))
      (False))
    (K (.agg [(.dob 1 0)]) [(.box [(.vec (.int .u8) (Prod.fst s)), (.int .i64 (Prod.fst (Prod.snd s))), (.int .u64 (Prod.snd (Prod.snd s)))]), (.dp 0 0 tT (ts))]) := by kernel_rfl
theorem w_spec_l10DrawOk (s : SrcD) (K : V → Heap → Prop) : wpFnG gp_spec_l10DrawOk c_spec_l10DrawOk Try.f14 (.ptr 0 0 :: encAs [] ()) [.box (enc tSrc s)] K =
  cond (srcIn 6 s)
    (LoopE c_spec_l10DrawOk ⟨[0, 2, 3, 4], 1, true⟩ (lb c_spec_l10DrawOk 3 Try.f14) [(0, (.ptr 0 0)), (2, (.ptr 1 0)), (3, (.ptr 2 0)), (4, (.int .i64 (pickV s 4)))] [(.box [(.vec (.int .u8) (Prod.fst (pickS s 4))), (.int .i64 (Prod.fst (Prod.snd (pickS s 4)))), (.int .u64 (Prod.snd (Prod.snd (pickS s 4))))]), (.box [.nils]), (.box [(.dob 3 0)]), (.dp 0 0 tT ([]))] (lkG gp_spec_l10DrawOk c_spec_l10DrawOk 3 Try.f14 [.box []] K))
    (False) := by kernel_rfl
noncomputable def s_spec_l10DrawOk : Sm := semPG tSrc [] [.agg [.deep tT]] (fun s x => match x with | _ => inS 200000 s) fun s x => match x with | _ => (((sceneV s, ()), ()), sceneS s)
theorem ok_spec_l10DrawOk : FnOkL Try.prog 14 s_spec_l10DrawOk := fnOkO_boxg (fnOkO_runG (C := c_spec_l10DrawOk) gp_spec_l10DrawOk rfl mixed .nil .nil (.cons ok_spec_l00Src_pick (.cons ok_spec_l10DrawThing (.cons ok_spec_l10Put .nil))) Try.func14 (by kernel_rfl)) rfl fun (s : SrcD) (x : Unit) ws wf hg K h => by
  obtain ⟨⟩ := x
  replace hg : (inS 200000 s) = true := hg
  replace h : K (tup (valRs [.agg [.deep tT]] (((sceneV s, ()), ())) 1)) (.box (enc tSrc (sceneS s)) :: thRs [.agg [.deep tT]] (((sceneV s, ()), ()))) := h
  rw [w_spec_l10DrawOk s  K]
  have hb : bytes s.1 := bytes_of ws.1
  have g6 : srcIn 6 s = true := inS_src hg (by omega) 6 (by omega)
  have kr := pickV_range hb (n := 4) (by omega)
  obtain ⟨n, hn⟩ : ∃ n : Nat, pickV s 4 = (n : Int) := ⟨(pickV s 4).toNat, by omega⟩
  unfold sceneV sceneS at h
  rw [hn, Int.toNat_natCast] at h
  rw [hn] at kr
  rw [g6, cond_true, hn]
  refine loop_run (σ := Nat × ScD) (fun r => fr_spec_l10DrawOk_3 s [] r.1) (fun r => hp_spec_l10DrawOk_3 r.2.2 r.2.1 r.1) (fun r => r.1 ≤ n ∧ ScOk r.2 (n - r.1) ∧ Far s r.2.2 (2 + 256 * (n - r.1 : Nat)) ∧ scGo r.1 r.2 = scGo n ([], pickS s 4)) (fun r => r.1) ?_ (n, [], pickS s 4) ⟨Nat.le_refl _, by simp only [Nat.sub_self]; exact sc0_ok hb, by simp only [Nat.sub_self]; exact far_pick s 4, rfl⟩
  rintro ⟨j, ts, u⟩ ⟨hj, hq, hf, hgo⟩ Kn hk3
  simp only at hj hq hf hgo hk3 ⊢
  rw [show fr_spec_l10DrawOk_3 s [] j = fr_spec_l10DrawOk_3 u ts j from rfl, r_spec_l10DrawOk_3 u ts j Kn K]
  rw [← hgo] at h
  cases j with
  | zero =>
    rw [d_f (show ¬ ((0 : Nat) : Int) > 0 by omega), cond_false]
    exact h
  | succ j =>
    have hk1 := hk3 (j, scStep (ts, u))
    have hl : ts.length ≤ n - (j + 1) := hq.l
    have bu : bytes u.1 := hf.bytes hb
    have wj : IntKind.i64.wrap (((j + 1 : Nat) : Int) - 1) = (j : Int) := by rw [i64_of (by omega) (by omega)]; omega
    have hko := scStep_ok hq
    rw [show n - (j + 1) + 1 = n - j by omega] at hko
    have hfa : Far s (scStep (ts, u)).2 (2 + 256 * ((n - j : Nat) : Int)) := (hf.trans (far_thing bu)).mono (by omega)
    have hle : j ≤ n := by omega
    have next := hk1 ⟨hle, hko, hfa, hgo⟩ (Nat.lt_succ_self j)
    have g3 : inS 300000 u = true := hf.ok hg (by omega)
    have ht : thingB (nameAt u, shapeV (pickS u 8), keysV (shapeS (pickS u 8))) = true := thing_ok bu
    have hup : upB ts = true := hq.up
    simp only [d_t (show ((j + 1 : Nat) : Int) > 0 by omega), cond_true, g3, wj, ht, hup, d_t (show ts.length ≤ 1048576 by omega), Bool.and_self]
    exact next

/-! spec.R8Scene -/
noncomputable def c_spec_R8Scene : Ctx := mkC Try.prog tyT [] [] [(13, s_spec_l00From), (14, s_spec_l10DrawOk)] 8 (fun _ => none) 0
theorem w_spec_R8Scene (xs : List Int) (K : V → Heap → Prop) : wpFn c_spec_R8Scene Try.f5 (encAs [.cell tB] (xs, ())) [] K =
  cond (inS 200000 (xs, 0, 0))
    (K (.agg [(.vec tT (sceneV (xs, 0, 0)))]) [])
    (False) := by kernel_rfl
noncomputable def s_spec_R8Scene : Sm := semT [.cell tB] fun x => match x with | (xs, _) => .agg [.vec tT (sceneV (xs, 0, 0))]
theorem ok_spec_R8Scene : FnOk Try.prog 5 s_spec_R8Scene := fnOk_typed (fnOk_runC (C := c_spec_R8Scene) rfl mixed .nil .nil (.cons ok_spec_l00From (.cons ok_spec_l10DrawOk .nil)) Try.func5 (by kernel_rfl)) fun (x : ((List Int) × Unit)) wf K h => by
  obtain ⟨xs, ⟨⟩⟩ := x
  replace h : K (.agg [.vec tT (sceneV (xs, 0, 0))]) [] := h
  rw [w_spec_R8Scene xs K]
  exact cond_intro (by rw [inS_iff]; exact ⟨Int.le_refl _, by show (0 : Int) ≤ _; decide⟩) h

/-! spec.R8Thing -/
noncomputable def c_spec_R8Thing : Ctx := mkC Try.prog tyT [] [] [(13, s_spec_l00From), (15, s_spec_l10DrawThing)] 8 (fun _ => none) 0
theorem w_spec_R8Thing (xs : List Int) (K : V → Heap → Prop) : wpFn c_spec_R8Thing Try.f6 (encAs [.cell tB] (xs, ())) [] K =
  cond (inS 300000 (xs, 0, 0))
    (K (.agg [(.str (nameAt (xs, 0, 0))), (.vec tN (shapeV (pickS (xs, 0, 0) 8))), (.vec tK (keysV (shapeS (pickS (xs, 0, 0) 8))))]) [])
    (False) := by kernel_rfl
noncomputable def s_spec_R8Thing : Sm := semT [.cell tB] fun x => match x with | (xs, _) => .agg (enc tT (thingV (xs, 0, 0)))
theorem ok_spec_R8Thing : FnOk Try.prog 6 s_spec_R8Thing := fnOk_typed (fnOk_runC (C := c_spec_R8Thing) rfl mixed .nil .nil (.cons ok_spec_l00From (.cons ok_spec_l10DrawThing .nil)) Try.func6 (by kernel_rfl)) fun (x : ((List Int) × Unit)) wf K h => by
  obtain ⟨xs, ⟨⟩⟩ := x
  replace h : K (.agg (enc tT (thingV (xs, 0, 0)))) [] := h
  rw [w_spec_R8Thing xs K]
  exact cond_intro (by rw [inS_iff]; exact ⟨Int.le_refl _, by show (0 : Int) ≤ _; decide⟩) h

/-! laws.r8Long -/
noncomputable def c_laws_r8Long : Ctx := mkC Try.prog tyT [] [] [] 13 (fun _ => none) 0
theorem w_laws_r8Long (xs ys : List Int) (K : V → Heap → Prop) : wpFn c_laws_r8Long Try.f4 (encAs [.cell tB, .cell tB] (xs, ys, ())) [] K =
  cond (decide ((↑(List.length xs) : Int) > 48))
    (K (.bool true) [])
    (K (.bool (decide ((↑(List.length ys) : Int) > 48))) []) := by kernel_rfl
noncomputable def s_laws_r8Long : Sm := semT [.cell tB, .cell tB] fun x => match x with | (xs, ys, _) => .bool (decide (48 < xs.length) || decide (48 < ys.length))
theorem ok_laws_r8Long : FnOk Try.prog 4 s_laws_r8Long := fnOk_typed (fnOk_runC (C := c_laws_r8Long) rfl mixed .nil .nil .nil Try.func4 (by kernel_rfl)) fun (x : ((List Int) × (List Int) × Unit)) wf K h => by
  obtain ⟨xs, ys, ⟨⟩⟩ := x
  replace h : K (.bool (decide (48 < xs.length) || decide (48 < ys.length))) [] := h
  rw [w_laws_r8Long xs ys K]
  have e : ∀ n : Nat, decide ((n : Int) > 48) = decide (48 < n) := fun n => decide_eq_decide.2 (by omega)
  rw [e, e]
  cases h1 : decide (48 < xs.length) <;> rw [h1] at h <;> exact h

theorem new_step {ts us : List ThingD} {i : Nat} (hi : i < us.length) : (newL ts (us.take (i + 1))).length = (newL ts (us.take i)).length + (bif findB ts (us[i]'hi).1 then 0 else 1) := by
  unfold newL
  rw [take_one hi, List.filter_append, List.length_append, List.filter_cons, List.filter_nil]
  cases findB ts (us[i]'hi).1 <;> rfl

/-! laws.FnScenesPut -/
noncomputable def a_laws_FnScenesPut : Nat → Option Ann := fun n => bif Nat.beq n 15 then some ⟨[5,6,7,8,16,18,19],0,true⟩ else bif Nat.beq n 24 then some ⟨[5,6,8,16,18,24],0,true⟩ else none
noncomputable def c_laws_FnScenesPut : Ctx := mkC Try.prog tyT [(4, s_laws_r8Long), (5, s_spec_R8Scene), (6, s_spec_R8Thing), (7, s_impl_PutThing_vg_vv), (8, s_impl_FindThing), (9, s_impl_DropThing_vg_vv), (10, s_impl_MergeScenes_vg_vv), (11, s_impl_ValidScene), (12, s_impl_SameShape)] [] [] 252 a_laws_FnScenesPut 0 false [] false true
noncomputable def fr_laws_FnScenesPut_15 (ss os ps bs : List ThingD) (s : Str) (ns : ShapeD) (ks : List KeyD) (c i : Int) : Fr := [(5, .ptr 0 0), (6, .ptr 1 0), (7, .ptr 2 0), (8, .ptr 3 0), (16, .ptr 4 0), (18, .int .i64 c), (19, .int .i64 i)]
noncomputable def hp_laws_FnScenesPut_15 (ss os ps bs : List ThingD) (s : Str) (ns : ShapeD) (ks : List KeyD) (c i : Int) : Heap := [.box [.vec tT ss], .box [.str s, .vec tN ns, .vec tK ks], .box [.vec tT os], .box [.vec tT ps], .box [.vec tT bs]]
theorem r_laws_FnScenesPut_15 (ss os ps bs : List ThingD) (s : Str) (ns : ShapeD) (ks : List KeyD) (c i : Int) (Kn : Fr → Heap → Prop) (K : V → Heap → Prop) : round c_laws_FnScenesPut ⟨[5,6,7,8,16,18,19],0,true⟩ (lb c_laws_FnScenesPut 15 Try.f3) (fr_laws_FnScenesPut_15 ss os ps bs s ns ks c i) (hp_laws_FnScenesPut_15 ss os ps bs s ns ks c i) Kn (lk c_laws_FnScenesPut 15 Try.f3 [] K) =
  cond (decide (i < (↑(List.length os) : Int)))
    (cond (decide (0 ≤ i))
      ((match os[Int.toNat i]? with
        | some y0 => cond (decide (0 ≤ i))
          ((match os[Int.toNat i]? with
            | some y1 => cond (!(sceneB ss && findB ss (Prod.fst y1)))
              (cond (!(sceneB bs && findB bs (Prod.fst y0)))
                (K (.bool false) [])
                (cond (decide (0 ≤ bif sceneB bs && findB bs (Prod.fst y0) then (↑(findN bs (Prod.fst y0)) : Int) else 0))
                  ((match bs[Int.toNat (bif sceneB bs && findB bs (Prod.fst y0) then (↑(findN bs (Prod.fst y0)) : Int) else 0)]? with
                    | some y2 => cond (decide (0 ≤ i))
                      ((match os[Int.toNat i]? with
                        | some y3 => cond (!Prod.fst (Prod.snd y2) == Prod.fst (Prod.snd y3))
                          (K (.bool false) [])
                          (Kn [(5, (.ptr 0 0)), (6, (.ptr 1 0)), (7, (.ptr 2 0)), (8, (.ptr 3 0)), (16, (.ptr 4 0)), (18, (.int .i64 (IntKind.wrap IntKind.i64 (c + 1)))), (19, (.int .i64 (IntKind.wrap IntKind.i64 (i + 1))))] [(.box [(.vec tT (ss))]), (.box [(.str (s)), (.vec tN (ns)), (.vec tK (ks))]), (.box [(.vec tT (os))]), (.box [(.vec tT (ps))]), (.box [(.vec tT (bs))])])
                        | none => False))
                      (False)
                    | none => False))
                  (False)))
              (cond (!(sceneB bs && findB bs (Prod.fst y0)))
                (K (.bool false) [])
                (cond (decide (0 ≤ bif sceneB bs && findB bs (Prod.fst y0) then (↑(findN bs (Prod.fst y0)) : Int) else 0))
                  ((match bs[Int.toNat (bif sceneB bs && findB bs (Prod.fst y0) then (↑(findN bs (Prod.fst y0)) : Int) else 0)]? with
                    | some y4 => cond (decide (0 ≤ i))
                      ((match os[Int.toNat i]? with
                        | some y5 => cond (!Prod.fst (Prod.snd y4) == Prod.fst (Prod.snd y5))
                          (K (.bool false) [])
                          (Kn [(5, (.ptr 0 0)), (6, (.ptr 1 0)), (7, (.ptr 2 0)), (8, (.ptr 3 0)), (16, (.ptr 4 0)), (18, (.int .i64 (c))), (19, (.int .i64 (IntKind.wrap IntKind.i64 (i + 1))))] [(.box [(.vec tT (ss))]), (.box [(.str (s)), (.vec tN (ns)), (.vec tK (ks))]), (.box [(.vec tT (os))]), (.box [(.vec tT (ps))]), (.box [(.vec tT (bs))])])
                        | none => False))
                      (False)
                    | none => False))
                  (False)))
            | none => False))
          (False)
        | none => False))
      (False))
    (LoopE c_laws_FnScenesPut ⟨[5, 6, 8, 16, 18, 24], 0, true⟩ (lb c_laws_FnScenesPut 24 Try.f3) [(5, (.ptr 0 0)), (6, (.ptr 1 0)), (8, (.ptr 2 0)), (16, (.ptr 3 0)), (18, (.int .i64 (c))), (24, (.int .i64 0))] [(.box [(.vec tT (ss))]), (.box [(.str (s)), (.vec tN (ns)), (.vec tK (ks))]), (.box [(.vec tT (ps))]), (.box [(.vec tT (bs))])] (lk c_laws_FnScenesPut 24 Try.f3 [] K)) := by kernel_rfl
noncomputable def fr_laws_FnScenesPut_24 (ss ps bs : List ThingD) (s : Str) (ns : ShapeD) (ks : List KeyD) (c i : Int) : Fr := [(5, .ptr 0 0), (6, .ptr 1 0), (8, .ptr 2 0), (16, .ptr 3 0), (18, .int .i64 c), (24, .int .i64 i)]
noncomputable def hp_laws_FnScenesPut_24 (ss ps bs : List ThingD) (s : Str) (ns : ShapeD) (ks : List KeyD) (c i : Int) : Heap := [.box [.vec tT ss], .box [.str s, .vec tN ns, .vec tK ks], .box [.vec tT ps], .box [.vec tT bs]]
theorem r_laws_FnScenesPut_24 (ss ps bs : List ThingD) (s : Str) (ns : ShapeD) (ks : List KeyD) (c i : Int) (Kn : Fr → Heap → Prop) (K : V → Heap → Prop) : round c_laws_FnScenesPut ⟨[5,6,8,16,18,24],0,true⟩ (lb c_laws_FnScenesPut 24 Try.f3) (fr_laws_FnScenesPut_24 ss ps bs s ns ks c i) (hp_laws_FnScenesPut_24 ss ps bs s ns ks c i) Kn (lk c_laws_FnScenesPut 24 Try.f3 [] K) =
  cond (decide (i < (↑(List.length ss) : Int)))
    (cond (decide (0 ≤ i))
      ((match ss[Int.toNat i]? with
        | some y0 => cond (decide (0 ≤ i))
          ((match ss[Int.toNat i]? with
            | some y1 => cond (!(sceneB bs && findB bs (Prod.fst y0)))
              (K (.bool false) [])
              (cond (!(sceneB ps && findB ps (Prod.fst y1)))
                (K (.bool false) [])
                (cond (decide (0 ≤ i))
                  ((match ss[Int.toNat i]? with
                    | some y2 => cond (!bytesEq (Prod.fst y2) s)
                      (cond (decide (0 ≤ bif sceneB ps && findB ps (Prod.fst y1) then (↑(findN ps (Prod.fst y1)) : Int) else 0))
                        ((match ps[Int.toNat (bif sceneB ps && findB ps (Prod.fst y1) then (↑(findN ps (Prod.fst y1)) : Int) else 0)]? with
                          | some y3 => cond (decide (0 ≤ i))
                            ((match ss[Int.toNat i]? with
                              | some y4 => cond (!Prod.fst (Prod.snd y3) == Prod.fst (Prod.snd y4))
                                (K (.bool false) [])
                                (Kn [(5, (.ptr 0 0)), (6, (.ptr 1 0)), (8, (.ptr 2 0)), (16, (.ptr 3 0)), (18, (.int .i64 (c))), (24, (.int .i64 (IntKind.wrap IntKind.i64 (i + 1))))] [(.box [(.vec tT (ss))]), (.box [(.str (s)), (.vec tN (ns)), (.vec tK (ks))]), (.box [(.vec tT (ps))]), (.box [(.vec tT (bs))])])
                              | none => False))
                            (False)
                          | none => False))
                        (False))
                      (Kn [(5, (.ptr 0 0)), (6, (.ptr 1 0)), (8, (.ptr 2 0)), (16, (.ptr 3 0)), (18, (.int .i64 (c))), (24, (.int .i64 (IntKind.wrap IntKind.i64 (i + 1))))] [(.box [(.vec tT (ss))]), (.box [(.str (s)), (.vec tN (ns)), (.vec tK (ks))]), (.box [(.vec tT (ps))]), (.box [(.vec tT (bs))])])
                    | none => False))
                  (False)))
            | none => False))
          (False)
        | none => False))
      (False))
    (K (.bool ((↑(List.length bs) : Int) == c)) []) := by kernel_rfl
theorem w_laws_FnScenesPut (xs ys : List Int) (K : V → Heap → Prop) : wpFn c_laws_FnScenesPut Try.f3 (encAs [.cell tB, .cell tB] (xs, ys, ())) [] K =
  cond (decide (48 < List.length xs) || decide (48 < List.length ys))
    (K (.bool true) [])
    (cond (fitC (putR (sceneV (xs, 0, 0)) (thingV (ys, 0, 0))))
      (cond (!putOk (sceneV (xs, 0, 0)) (thingV (ys, 0, 0)))
        (K (.bool false) [])
        (cond (!(sceneB (putR (sceneV (xs, 0, 0)) (thingV (ys, 0, 0))) && findB (putR (sceneV (xs, 0, 0)) (thingV (ys, 0, 0))) (Prod.fst (thingV (ys, 0, 0)))))
          (K (.bool false) [])
          (cond (!dropOk (putR (sceneV (xs, 0, 0)) (thingV (ys, 0, 0))) (Prod.fst (thingV (ys, 0, 0))))
            (K (.bool false) [])
            (cond (sceneB (dropR (putR (sceneV (xs, 0, 0)) (thingV (ys, 0, 0))) (Prod.fst (thingV (ys, 0, 0)))) && findB (dropR (putR (sceneV (xs, 0, 0)) (thingV (ys, 0, 0))) (Prod.fst (thingV (ys, 0, 0)))) (Prod.fst (thingV (ys, 0, 0))))
              (K (.bool false) [])
              (cond (!mergeOk (sceneV (xs, 0, 0)) (sceneV (ys, 0, 0)))
                (K (.bool false) [])
                (cond (!sceneB (putR (sceneV (xs, 0, 0)) (thingV (ys, 0, 0))))
                  (K (.bool false) [])
                  (cond (!sceneB (mergeR (sceneV (xs, 0, 0)) (sceneV (ys, 0, 0))))
                    (K (.bool false) [])
                    (cond (decide (0 ≤ bif sceneB (putR (sceneV (xs, 0, 0)) (thingV (ys, 0, 0))) && findB (putR (sceneV (xs, 0, 0)) (thingV (ys, 0, 0))) (Prod.fst (thingV (ys, 0, 0))) then (↑(findN (putR (sceneV (xs, 0, 0)) (thingV (ys, 0, 0))) (Prod.fst (thingV (ys, 0, 0)))) : Int) else 0))
                      ((match (putR (sceneV (xs, 0, 0)) (thingV (ys, 0, 0)))[Int.toNat (bif sceneB (putR (sceneV (xs, 0, 0)) (thingV (ys, 0, 0))) && findB (putR (sceneV (xs, 0, 0)) (thingV (ys, 0, 0))) (Prod.fst (thingV (ys, 0, 0))) then (↑(findN (putR (sceneV (xs, 0, 0)) (thingV (ys, 0, 0))) (Prod.fst (thingV (ys, 0, 0)))) : Int) else 0)]? with
                        | some y0 => cond (!bytesEq (Prod.fst y0) (Prod.fst (thingV (ys, 0, 0))))
                          (K (.bool false) [])
                          (cond (decide (0 ≤ bif sceneB (putR (sceneV (xs, 0, 0)) (thingV (ys, 0, 0))) && findB (putR (sceneV (xs, 0, 0)) (thingV (ys, 0, 0))) (Prod.fst (thingV (ys, 0, 0))) then (↑(findN (putR (sceneV (xs, 0, 0)) (thingV (ys, 0, 0))) (Prod.fst (thingV (ys, 0, 0)))) : Int) else 0))
                            ((match (putR (sceneV (xs, 0, 0)) (thingV (ys, 0, 0)))[Int.toNat (bif sceneB (putR (sceneV (xs, 0, 0)) (thingV (ys, 0, 0))) && findB (putR (sceneV (xs, 0, 0)) (thingV (ys, 0, 0))) (Prod.fst (thingV (ys, 0, 0))) then (↑(findN (putR (sceneV (xs, 0, 0)) (thingV (ys, 0, 0))) (Prod.fst (thingV (ys, 0, 0)))) : Int) else 0)]? with
                              | some y1 => cond (!Prod.fst (Prod.snd y1) == Prod.fst (Prod.snd (thingV (ys, 0, 0))))
                                (K (.bool false) [])
                                (cond ((↑(List.length (dropR (putR (sceneV (xs, 0, 0)) (thingV (ys, 0, 0))) (Prod.fst (thingV (ys, 0, 0))))) : Int) != IntKind.wrap IntKind.i64 ((↑(List.length (putR (sceneV (xs, 0, 0)) (thingV (ys, 0, 0)))) : Int) - 1))
                                  (K (.bool false) [])
                                  (LoopE c_laws_FnScenesPut ⟨[5, 6, 7, 8, 16, 18, 19], 0, true⟩ (lb c_laws_FnScenesPut 15 Try.f3) [(5, (.ptr 0 0)), (6, (.ptr 1 0)), (7, (.ptr 2 0)), (8, (.ptr 3 0)), (16, (.ptr 4 0)), (18, (.int .i64 ((↑(List.length (sceneV (xs, 0, 0))) : Int)))), (19, (.int .i64 0))] [(.box [(.vec tT (sceneV (xs, 0, 0)))]), (.box [(.str (Prod.fst (thingV (ys, 0, 0)))), (.vec tN (Prod.fst (Prod.snd (thingV (ys, 0, 0))))), (.vec tK (Prod.snd (Prod.snd (thingV (ys, 0, 0)))))]), (.box [(.vec tT (sceneV (ys, 0, 0)))]), (.box [(.vec tT (putR (sceneV (xs, 0, 0)) (thingV (ys, 0, 0))))]), (.box [(.vec tT (mergeR (sceneV (xs, 0, 0)) (sceneV (ys, 0, 0))))])] (lk c_laws_FnScenesPut 15 Try.f3 [] K)))
                              | none => False))
                            (False))
                        | none => False))
                      (False)))))))))
      (False)) := by kernel_rfl
noncomputable def s_laws_FnScenesPut : Sm := semT [.cell tB, .cell tB] fun x => match x with | (xs, ys, _) => .bool true
theorem ok_laws_FnScenesPut : FnOk Try.prog 3 s_laws_FnScenesPut := fnOk_typed (fnOk_runC (C := c_laws_FnScenesPut) rfl mixed (.cons ok_laws_r8Long (.cons ok_spec_R8Scene (.cons ok_spec_R8Thing (.cons ok_impl_PutThing_vg_vv (.cons ok_impl_FindThing (.cons ok_impl_DropThing_vg_vv (.cons ok_impl_MergeScenes_vg_vv (.cons ok_impl_ValidScene (.cons ok_impl_SameShape .nil))))))))) .nil .nil Try.func3 (by kernel_rfl)) fun (x : ((List Int) × (List Int) × Unit)) wf K h => by
  obtain ⟨xs, ys, ⟨⟩⟩ := x
  replace h : K (.bool true) [] := h
  rw [w_laws_FnScenesPut xs ys K]
  have bx : bytes xs := bytes_of wf.1
  have bY : bytes ys := bytes_of wf.2.1
  obtain ⟨hS, lS⟩ := scene_ok (s := (xs, 0, 0)) bx
  obtain ⟨hO, lO⟩ := scene_ok (s := (ys, 0, 0)) bY
  have hT := thing_ok (s := (ys, 0, 0)) bY
  generalize sceneV (xs, 0, 0) = S at *
  generalize sceneV (ys, 0, 0) = O at *
  generalize thingV (ys, 0, 0) = T at *
  cases (decide (48 < xs.length) || decide (48 < ys.length)) with
  | true => exact h
  | false =>
  have oT : ∀ u ∈ O, thingB u = true := (up_iff.1 hO).1
  have sS : sceneB S = true := by rw [scene_up, hS, d_t (show S.length ≤ 8 by omega)]; rfl
  have sO : sceneB O = true := by rw [scene_up, hO, d_t (show O.length ≤ 8 by omega)]; rfl
  obtain ⟨P, hP⟩ : ∃ P, P = putF S T := ⟨_, rfl⟩
  obtain ⟨B, hB⟩ : ∃ B, B = mergeL S O := ⟨_, rfl⟩
  have uP : upB P = true := by rw [hP]; exact putF_up hS hT
  have lP : P.length ≤ S.length + 1 := by rw [hP]; exact putF_len S T
  have sP : sceneB P = true := by rw [scene_up, uP, d_t (show P.length ≤ 8 by omega)]; rfl
  have fP : fitC P = true := up_fit uP (by omega)
  obtain ⟨uB, lB⟩ := merge_up (us := O) hS oT
  rw [← hB] at uB lB
  have sB : sceneB B = true := by rw [scene_up, uB, d_t (show B.length ≤ 8 by omega)]; rfl
  have pOk : putOk S T = true := by unfold putOk; rw [sS, hT, ← hP, sP]; rfl
  have pR : putR S T = P := by unfold putR; rw [pOk, hP]; rfl
  have mOk : mergeOk S O = true := by unfold mergeOk; rw [sS, sO, ← hB, sB]; rfl
  have mR : mergeR S O = B := by unfold mergeR; rw [mOk, hB]; rfl
  have mP : ∀ {x : ThingD}, x ∈ P ↔ x = T ∨ (x ∈ S ∧ x.1 ≠ T.1) := fun {x} => by rw [hP]; exact put_mem
  have mB : ∀ {x : ThingD}, x ∈ B ↔ x ∈ O ∨ (x ∈ S ∧ ∀ u ∈ O, x.1 ≠ u.1) := fun {x} => by rw [hB]; exact merge_mem (up_names hO)
  obtain ⟨t1, t2, t3⟩ := find_in uP (mP.2 (.inl rfl))
  have dOk : dropOk P T.1 = true := by unfold dropOk; rw [sP, t1]; rfl
  have dR : dropR P T.1 = dropL P T.1 := by unfold dropR; rw [dOk]; rfl
  have dF : findB (dropL P T.1) T.1 = false := find_false fun x hx => by
    have := (List.mem_filter.1 hx).2
    unfold noT at this
    simpa using this
  have dL : (dropL P T.1).length = P.length - 1 := by
    rw [← drop_eq sP t1, List.length_append, List.length_take, List.length_drop]
    omega
  have cB : B.length = S.length + (newL S O).length := by rw [hB]; exact merge_len hS (up_names hO) oT
  have wP : IntKind.i64.wrap ((P.length : Int) - 1) = ((P.length - 1 : Nat) : Int) := by rw [i64_of (by omega) (by omega)]; omega
  clear hP hB
  simp only [cond_false, cond_true, pR, pOk, mR, mOk, fP, sP, sB, t1, dOk, dR, dF, Bool.not_true, Bool.and_self, Bool.and_false, d_0, Int.toNat_natCast, t3, bytesEq, beq_self_eq_true, dL, wP, bne_self_eq_false]
  refine loop_run (σ := Nat) (fun i => fr_laws_FnScenesPut_15 S O P B T.1 T.2.1 T.2.2 ((S.length + (newL S (O.take i)).length : Nat) : Int) i) (fun i => hp_laws_FnScenesPut_15 S O P B T.1 T.2.1 T.2.2 0 i) (fun i => i ≤ O.length) (fun i => O.length - i) ?_ 0 (Nat.zero_le _)
  intro i hi Kn hk
  have nl : (newL S (O.take i)).length ≤ i := Nat.le_trans (List.length_filter_le _ _) (by rw [List.length_take]; omega)
  rw [show hp_laws_FnScenesPut_15 S O P B T.1 T.2.1 T.2.2 0 i = hp_laws_FnScenesPut_15 S O P B T.1 T.2.1 T.2.2 ((S.length + (newL S (O.take i)).length : Nat) : Int) i from rfl, r_laws_FnScenesPut_15 S O P B T.1 T.2.1 T.2.2 ((S.length + (newL S (O.take i)).length : Nat) : Int) i Kn K]
  by_cases hlt : i < O.length
  · have go := hk (i + 1) hlt (by omega)
    rw [new_step hlt] at go
    obtain ⟨q1, q2, q3⟩ := find_in uB (mB.2 (.inl (List.getElem_mem hlt)))
    have wi : IntKind.i64.wrap ((i : Int) + 1) = ((i + 1 : Nat) : Int) := by rw [i64_of (by omega) (by omega)]; omega
    have wc : IntKind.i64.wrap (((S.length + (newL S (O.take i)).length : Nat) : Int) + 1) = ((S.length + (newL S (O.take i)).length + 1 : Nat) : Int) := by rw [i64_of (by omega) (by omega)]; omega
    simp only [d_lt hlt, d_0, cond_true, Int.toNat_natCast, get_lt hlt, sS, sB, q1, q3, Bool.true_and, Bool.not_true, cond_false, beq_self_eq_true, wi, wc]
    cases e : findB S (O[i]'hlt).1 with
    | true =>
      rw [e] at go
      exact go
    | false =>
      rw [e] at go
      exact go
  · have : i = O.length := by omega
    subst this
    simp only [d_nlt hlt, cond_false]
    rw [List.take_length, ← cB]
    refine loop_run (σ := Nat) (fun i => fr_laws_FnScenesPut_24 S P B T.1 T.2.1 T.2.2 (B.length : Int) i) (fun i => hp_laws_FnScenesPut_24 S P B T.1 T.2.1 T.2.2 0 i) (fun i => i ≤ S.length) (fun i => S.length - i) ?_ 0 (Nat.zero_le _)
    intro i hi Kn hk
    rw [show hp_laws_FnScenesPut_24 S P B T.1 T.2.1 T.2.2 0 i = hp_laws_FnScenesPut_24 S P B T.1 T.2.1 T.2.2 (B.length : Int) i from rfl, r_laws_FnScenesPut_24 S P B T.1 T.2.1 T.2.2 (B.length : Int) i Kn K]
    by_cases hlt : i < S.length
    · have go := hk (i + 1) hlt (by omega)
      have hm := List.getElem_mem hlt
      have wi : IntKind.i64.wrap ((i : Int) + 1) = ((i + 1 : Nat) : Int) := by rw [i64_of (by omega) (by omega)]; omega
      simp only [d_lt hlt, d_0, cond_true, Int.toNat_natCast, get_lt hlt, wi, bytesEq]
      generalize S[i]'hlt = y at *
      have q1 : findB B y.1 = true := by
        rw [find_iff uB]
        by_cases c : ∃ u ∈ O, u.1 = y.1
        · obtain ⟨u, h1, h2⟩ := c
          exact ⟨u, mB.2 (.inl h1), h2⟩
        · exact ⟨y, mB.2 (.inr ⟨hm, fun u hu e => c ⟨u, hu, e.symm⟩⟩), rfl⟩
      have q2 : findB P y.1 = true := by
        rw [find_iff uP]
        by_cases c : y.1 = T.1
        · exact ⟨T, mP.2 (.inl rfl), c.symm⟩
        · exact ⟨y, mP.2 (.inr ⟨hm, c⟩), rfl⟩
      simp only [sB, sP, q1, q2, Bool.and_self, Bool.not_true, cond_false, cond_true, d_0, Int.toNat_natCast]
      cases c : (y.1 == T.1) with
      | true => exact go
      | false =>
        obtain ⟨_, _, q3⟩ := find_in uP (mP.2 (.inr ⟨hm, by simpa using c⟩))
        simp only [q3, Bool.not_false, cond_true, beq_self_eq_true, Bool.not_true, cond_false]
        exact go
    · simp only [d_nlt hlt, cond_false, beq_self_eq_true]
      exact h

end Go.Proofs.Ytmkomfhnomnbiaa
