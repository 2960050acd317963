/- A shape of a scene at a time: the reference. -/
import Derived.Test.YtbalmdjicdeeiaaGreatPath
import Derived.Test.YtbalmdjicdeeiaaGreatDeepS
set_option linter.unusedVariables false
set_option linter.unusedSimpArgs false
set_option maxRecDepth 100000
namespace Go.Proofs.YtbalmdjicdeeiaaGreat
open Go.Ev

theorem inR_le {n : Nat} {lo hi : Int} (h : inR n lo hi = true) : lo ≤ (n : Int) ∧ (n : Int) ≤ hi := inR_iff.1 h
theorem valid_len {s : ShapeD} (h : validS s = true) : 1 ≤ s.length ∧ s.length ≤ 16 := by
  unfold validS at h
  simp only [Bool.and_eq_true] at h
  have := inR_iff.1 h.1
  omega
theorem kindN_le (k : Int) : kindN k ≤ 4 := by
  cases h : isK k with
  | false => unfold kindN; rw [kindV_no h]; decide
  | true =>
    rcases kinds h with r | r | r | r | r | r | r | r | r | r | r | r | r | r | r | r | r <;> subst r <;> decide
theorem valid_node {s : ShapeD} (h : validS s = true) {x : NodeD} (hx : x ∈ s) : x.2.2.2.length ≤ 4 := by
  obtain ⟨i, hi, rfl⟩ := List.mem_iff_getElem.1 hx
  cases hn : nodeB i (s[i]'hi) with
  | false => rw [valid_no hi hn] at h; cases h
  | true =>
    unfold nodeB numsB at hn
    simp only [Bool.and_eq_true, beq_iff_eq] at hn
    have := kindN_le (s[i]'hi).1
    omega
theorem valid_fit {s : ShapeD} (h : validS s = true) : fitS s = true := by
  unfold fitS fitN
  simp only [Bool.and_eq_true, decide_eq_true_eq, List.all_eq_true]
  have := valid_len h
  exact ⟨by omega, fun x hx => by have := valid_node h hx; omega⟩
theorem valid_wf {s : ShapeD} (h : validS s = true) {k : Int} {x : NodeD} (hx : x ∈ s) : isK x.1 = true := by
  obtain ⟨i, hi, rfl⟩ := List.mem_iff_getElem.1 hx
  cases hn : nodeB i (s[i]'hi) with
  | false => rw [valid_no hi hn] at h; cases h
  | true => exact nodeB_isK hn

--B wrapS Int → ShapeD → Int → List Nat → ShapeD
def wrapS (k : Int) (s : ShapeD) (ax : Int) (xs : List Nat) : ShapeD := s ++ [(k, (s.length : Int) - 1, ax, xs)]
--B wrapOk Int → ShapeD → Int → List Nat → Bool
def wrapOk (k : Int) (s : ShapeD) (ax : Int) (xs : List Nat) : Bool := validS s && (inR k 9 16 && validS (wrapS k s ax xs))
--B wrapR Int → ShapeD → Int → List Nat → ShapeD
def wrapR (k : Int) (s : ShapeD) (ax : Int) (xs : List Nat) : ShapeD := bif wrapOk k s ax xs then wrapS k s ax xs else []
--B joinS Int → ShapeD → ShapeD → List Nat → ShapeD
def joinS (k : Int) (u v : ShapeD) (xs : List Nat) : ShapeD := u ++ v.map (putN1 u.length) ++ [(k, (u.length : Int) - 1, (u.length : Int) + v.length - 1, xs)]
--B joinOk Int → ShapeD → ShapeD → List Nat → Bool
def joinOk (k : Int) (u v : ShapeD) (xs : List Nat) : Bool := validS u && (validS v && (inR k 5 8 && (!decide ((u.length : Int) + v.length ≥ 16) && validS (joinS k u v xs))))
--B joinR Int → ShapeD → ShapeD → List Nat → ShapeD
def joinR (k : Int) (u v : ShapeD) (xs : List Nat) : ShapeD := bif joinOk k u v xs then joinS k u v xs else []

/-! spec.l02Give -/
noncomputable def c_spec_l02Give : Ctx := mkC Tryz.prog tyT [(59, s_spec_l02Is)] [] [] 11 (fun _ => none) 0 false [] true
noncomputable def gp_spec_l02Give : List (List (Option Ty)) := List.map giveR [.agg [.deep tN], .cell (.imm .bool)]
theorem w_spec_l02Give (ls : ShapeD) (K : V → Heap → Prop) : wpFnT gp_spec_l02Give c_spec_l02Give Tryz.f77 (ofCells false (encP [.deep tN] (ls, ()) 0) :: encAs [] ()) (thP [.deep tN] (ls, ())) K =
  cond (!validS ls)
    (K (.tuple [(.agg [(.dob 0 0)]), (.bool false)]) [(.dp 0 0 (.pair (.int .i64) (.pair (.int .i64) (.pair (.int .i64) (.slice (.float .f32))))) ([]))])
    (K (.tuple [(.agg [(.dob 0 0)]), (.bool true)]) [(.dp 0 0 (.pair (.int .i64) (.pair (.int .i64) (.pair (.int .i64) (.slice (.float .f32))))) (ls))]) := by kernel_rfl
noncomputable def s_spec_l02Give : Sm := semK false [.deep tN] [] [.agg [.deep tN], .cell (.imm .bool)] (fun y x => match y, x with | (ls, _), _ => true) fun y x => match y, x with | (ls, _), _ => (((bif validS ls then ls else []), ()), validS ls, ())
theorem ok_spec_l02Give : FnOkL Tryz.prog 77 s_spec_l02Give := fnOkO_take (fnTk_run (C := c_spec_l02Give) gp_spec_l02Give rfl mixed (.cons ok_spec_l02Is .nil) .nil .nil Tryz.func77 (by kernel_rfl)) (by first | exact .inl rfl | exact .inr (.inl ⟨_, rfl⟩) | exact .inr (.inr ⟨_, rfl⟩)) rfl fun (y : ((ShapeD) × Unit)) (x : Unit) wf hg K h => by
  obtain ⟨⟩ := x
  obtain ⟨ls, ⟨⟩⟩ := y
  replace hg : (true) = true := hg
  replace h : K (tup (valRs [.agg [.deep tN], .cell (.imm .bool)] ((((bif validS ls then ls else []), ()), validS ls, ())) 0)) (thRs [.agg [.deep tN], .cell (.imm .bool)] ((((bif validS ls then ls else []), ()), validS ls, ()))) := h
  rw [w_spec_l02Give ls  K]
  revert h
  cases validS ls <;> exact id

/-! spec.WrapShape -/
noncomputable def c_spec_WrapShape_vg : Ctx := mkC Tryz.prog tyT [(59, s_spec_l02Is), (74, s_spec_l00In)] [] [(76, s_spec_l02Put), (77, s_spec_l02Give)] 36 (fun _ => none) 0 false [] true
noncomputable def gp_spec_WrapShape_vg : List (List (Option Ty)) := List.map giveR [.agg [.deep tN], .cell (.imm .bool)]
theorem w_spec_WrapShape_vg (k : Int) (s : ShapeD) (ax : Int) (xs : List Nat) (K : V → Heap → Prop) : wpFnG gp_spec_WrapShape_vg c_spec_WrapShape_vg Tryz.f47 (encAs [.cell tI, .agg tS, .cell tI, .cell (.slice tF)] (k, s, ax, xs, ())) [] K =
  cond (!validS s)
    (K (.tuple [(.agg [(.dob 0 0)]), (.bool false)]) [(.dp 0 0 (.pair (.int .i64) (.pair (.int .i64) (.pair (.int .i64) (.slice (.float .f32))))) ([]))])
    (cond (!inR k 9 16)
      (K (.tuple [(.agg [(.dob 0 0)]), (.bool false)]) [(.dp 0 0 (.pair (.int .i64) (.pair (.int .i64) (.pair (.int .i64) (.slice (.float .f32))))) ([]))])
      (cond (fitS s && decide (0 ≤ 1048576))
        (cond (decide ((0 + List.length xs) * 4 ≤ 140737488355328))
          (cond (decide ((List.length ([] ++ List.map (putN1 0) s) + 1) * 48 ≤ 140737488355328))
            (K (.tuple [(.agg [(.dob 0 0)]), (.bool (validS ([] ++ List.map (putN1 0) s ++ [(k, IntKind.wrap IntKind.i64 ((↑(List.length ([] ++ List.map (putN1 0) s)) : Int) - 1), ax, [] ++ xs)])))]) [(.dp 0 0 (.pair (.int .i64) (.pair (.int .i64) (.pair (.int .i64) (.slice (.float .f32))))) (bif validS ([] ++ List.map (putN1 0) s ++ [(k, IntKind.wrap IntKind.i64 ((↑(List.length ([] ++ List.map (putN1 0) s)) : Int) - 1), ax, [] ++ xs)]) then [] ++ List.map (putN1 0) s ++ [(k, IntKind.wrap IntKind.i64 ((↑(List.length ([] ++ List.map (putN1 0) s)) : Int) - 1), ax, [] ++ xs)] else []))])
            (False))
          (False))
        (False))) := by kernel_rfl
noncomputable def s_spec_WrapShape_vg : Sm := semV [.cell tI, .agg tS, .cell tI, .cell (.slice tF)] [.agg [.deep tN], .cell (.imm .bool)] (fun x => match x with | (k, s, ax, xs, _) => decide (xs.length ≤ 1048576)) fun x => match x with | (k, s, ax, xs, _) => ((wrapR k s ax xs, ()), wrapOk k s ax xs, ())
theorem ok_spec_WrapShape_vg : FnOkL Tryz.prog 47 s_spec_WrapShape_vg := fnOkO_give (fnOkO_runG (C := c_spec_WrapShape_vg) gp_spec_WrapShape_vg rfl mixed (.cons ok_spec_l02Is (.cons ok_spec_l00In .nil)) .nil (.cons ok_spec_l02Put (.cons ok_spec_l02Give .nil)) Tryz.func47 (by kernel_rfl)) rfl fun (x : ((Int) × (ShapeD) × (Int) × (List Nat) × Unit)) wf hg K h => by
  obtain ⟨k, s, ax, xs, ⟨⟩⟩ := x
  replace hg : (decide (xs.length ≤ 1048576)) = true := hg
  replace h : K (tup (valRs [.agg [.deep tN], .cell (.imm .bool)] (((wrapR k s ax xs, ()), wrapOk k s ax xs, ())) 0)) (thRs [.agg [.deep tN], .cell (.imm .bool)] (((wrapR k s ax xs, ()), wrapOk k s ax xs, ()))) := h
  rw [w_spec_WrapShape_vg k s ax xs K]
  have hg := of_decide_eq_true hg
  unfold wrapR at h
  cases h1 : validS s with
  | false => simp only [wrapOk, h1, Bool.false_and, cond_false, Bool.not_false, cond_true] at h ⊢; exact h
  | true =>
    have hl := valid_len h1
    cases h2 : inR k 9 16 with
    | false => simp only [wrapOk, h1, h2, Bool.true_and, Bool.false_and, cond_false, Bool.not_true, Bool.not_false, cond_true] at h ⊢; exact h
    | true =>
      have e : [] ++ List.map (putN1 0) s ++ [(k, IntKind.i64.wrap ((([] ++ List.map (putN1 0) s).length : Nat) - 1), ax, [] ++ xs)] = wrapS k s ax xs := by
        simp only [List.nil_append, putN1_map wf.2.1.2]
        rw [i64_of (by omega) (by omega)]
        rfl
      simp only [Bool.not_true, cond_false, e]
      refine cond_intro (by rw [valid_fit h1]; rfl) ?_
      refine cond_intro (decide_eq_true (by omega)) ?_
      refine cond_intro (decide_eq_true (by simp only [List.nil_append, List.length_map]; omega)) ?_
      simp only [wrapOk, h1, h2, Bool.true_and] at h
      exact h
noncomputable def s_spec_WrapShape_vg_vv : Sm := semG [.cell tI, .agg tS, .cell tI, .cell (.slice tF)] (fun x => match x with | (k, s, ax, xs, _) => decide (xs.length ≤ 1048576)) fun x => tup (vecRs [.agg [.deep tN], .cell (.imm .bool)] (match x with | (k, s, ax, xs, _) => ((wrapR k s ax xs, ()), wrapOk k s ax xs, ())))
theorem ok_spec_WrapShape_vg_vv : FnOk Tryz.prog 47 s_spec_WrapShape_vg_vv := fnOk_of_give ok_spec_WrapShape_vg.1

/-! spec.JoinShapes -/
noncomputable def c_spec_JoinShapes_vg : Ctx := mkC Tryz.prog tyT [(59, s_spec_l02Is), (92, s_spec_l02Two)] [] [(76, s_spec_l02Put), (77, s_spec_l02Give)] 62 (fun _ => none) 0 false [] true
noncomputable def gp_spec_JoinShapes_vg : List (List (Option Ty)) := List.map giveR [.agg [.deep tN], .cell (.imm .bool)]
theorem w_spec_JoinShapes_vg (k : Int) (u v : ShapeD) (xs : List Nat) (K : V → Heap → Prop) : wpFnG gp_spec_JoinShapes_vg c_spec_JoinShapes_vg Tryz.f79 (encAs [.cell tI, .agg tS, .agg tS, .cell (.slice tF)] (k, u, v, xs, ())) [] K =
  cond (!validS u)
    (K (.tuple [(.agg [(.dob 0 0)]), (.bool false)]) [(.dp 0 0 (.pair (.int .i64) (.pair (.int .i64) (.pair (.int .i64) (.slice (.float .f32))))) ([]))])
    (cond (!validS v)
      (K (.tuple [(.agg [(.dob 0 0)]), (.bool false)]) [(.dp 0 0 (.pair (.int .i64) (.pair (.int .i64) (.pair (.int .i64) (.slice (.float .f32))))) ([]))])
      (cond (!inR k 5 8)
        (K (.tuple [(.agg [(.dob 0 0)]), (.bool false)]) [(.dp 0 0 (.pair (.int .i64) (.pair (.int .i64) (.pair (.int .i64) (.slice (.float .f32))))) ([]))])
        (cond (decide (IntKind.wrap IntKind.i64 ((↑(List.length u) : Int) + (↑(List.length v) : Int)) ≥ 16))
          (K (.tuple [(.agg [(.dob 0 0)]), (.bool false)]) [(.dp 0 0 (.pair (.int .i64) (.pair (.int .i64) (.pair (.int .i64) (.slice (.float .f32))))) ([]))])
          (cond (fitS u && decide (0 ≤ 1048576))
            (cond (fitS v && decide (List.length ([] ++ List.map (putN1 0) u) ≤ 1048576))
              (cond (decide ((0 + List.length xs) * 4 ≤ 140737488355328))
                (cond (decide ((List.length ([] ++ List.map (putN1 0) u ++ List.map (putN1 (↑(List.length u) : Int)) v) + 1) * 48 ≤ 140737488355328))
                  (K (.tuple [(.agg [(.dob 0 0)]), (.bool (validS ([] ++ List.map (putN1 0) u ++ List.map (putN1 (↑(List.length u) : Int)) v ++ [(k, IntKind.wrap IntKind.i64 ((↑(List.length u) : Int) - 1), IntKind.wrap IntKind.i64 (IntKind.wrap IntKind.i64 ((↑(List.length u) : Int) + (↑(List.length v) : Int)) - 1), [] ++ xs)])))]) [(.dp 0 0 (.pair (.int .i64) (.pair (.int .i64) (.pair (.int .i64) (.slice (.float .f32))))) (bif validS ([] ++ List.map (putN1 0) u ++ List.map (putN1 (↑(List.length u) : Int)) v ++ [(k, IntKind.wrap IntKind.i64 ((↑(List.length u) : Int) - 1), IntKind.wrap IntKind.i64 (IntKind.wrap IntKind.i64 ((↑(List.length u) : Int) + (↑(List.length v) : Int)) - 1), [] ++ xs)]) then [] ++ List.map (putN1 0) u ++ List.map (putN1 (↑(List.length u) : Int)) v ++ [(k, IntKind.wrap IntKind.i64 ((↑(List.length u) : Int) - 1), IntKind.wrap IntKind.i64 (IntKind.wrap IntKind.i64 ((↑(List.length u) : Int) + (↑(List.length v) : Int)) - 1), [] ++ xs)] else []))])
                  (False))
                (False))
              (False))
            (False))))) := by kernel_rfl
noncomputable def s_spec_JoinShapes_vg : Sm := semV [.cell tI, .agg tS, .agg tS, .cell (.slice tF)] [.agg [.deep tN], .cell (.imm .bool)] (fun x => match x with | (k, u, v, xs, _) => decide (xs.length ≤ 1048576)) fun x => match x with | (k, u, v, xs, _) => ((joinR k u v xs, ()), joinOk k u v xs, ())
theorem ok_spec_JoinShapes_vg : FnOkL Tryz.prog 79 s_spec_JoinShapes_vg := fnOkO_give (fnOkO_runG (C := c_spec_JoinShapes_vg) gp_spec_JoinShapes_vg rfl mixed (.cons ok_spec_l02Is (.cons ok_spec_l02Two .nil)) .nil (.cons ok_spec_l02Put (.cons ok_spec_l02Give .nil)) Tryz.func79 (by kernel_rfl)) rfl fun (x : ((Int) × (ShapeD) × (ShapeD) × (List Nat) × Unit)) wf hg K h => by
  obtain ⟨k, u, v, xs, ⟨⟩⟩ := x
  replace hg : (decide (xs.length ≤ 1048576)) = true := hg
  replace h : K (tup (valRs [.agg [.deep tN], .cell (.imm .bool)] (((joinR k u v xs, ()), joinOk k u v xs, ())) 0)) (thRs [.agg [.deep tN], .cell (.imm .bool)] (((joinR k u v xs, ()), joinOk k u v xs, ()))) := h
  rw [w_spec_JoinShapes_vg k u v xs K]
  have hg := of_decide_eq_true hg
  unfold joinR at h
  cases h1 : validS u with
  | false => simp only [joinOk, h1, Bool.false_and, cond_false, Bool.not_false, cond_true] at h ⊢; exact h
  | true =>
    have hl := valid_len h1
    cases h2 : validS v with
    | false => simp only [joinOk, h1, h2, Bool.true_and, Bool.false_and, cond_false, Bool.not_true, Bool.not_false, cond_true] at h ⊢; exact h
    | true =>
      have hl2 := valid_len h2
      cases h3 : inR k 5 8 with
      | false => simp only [joinOk, h1, h2, h3, Bool.true_and, Bool.false_and, cond_false, Bool.not_true, Bool.not_false, cond_true] at h ⊢; exact h
      | true =>
        simp only [Bool.not_true, cond_false]
        rw [i64_of (show -9223372036854775808 ≤ (u.length : Int) + v.length by omega) (by omega)]
        cases h4 : decide ((u.length : Int) + v.length ≥ 16) with
        | true => simp only [joinOk, h1, h2, h3, h4, Bool.true_and, Bool.false_and, cond_false, Bool.not_true, Bool.not_false, cond_true] at h ⊢; exact h
        | false =>
          have e : [] ++ List.map (putN1 0) u ++ List.map (putN1 (u.length : Int)) v ++ [(k, IntKind.i64.wrap ((u.length : Int) - 1), IntKind.i64.wrap ((u.length : Int) + v.length - 1), [] ++ xs)] = joinS k u v xs := by
            simp only [List.nil_append, putN1_map wf.2.1.2]
            rw [i64_of (by omega) (by omega), i64_of (by omega) (by omega)]
            rfl
          simp only [cond_false, e]
          refine cond_intro (by rw [valid_fit h1]; rfl) ?_
          refine cond_intro (by rw [valid_fit h2, Bool.true_and]; exact decide_eq_true (by simp only [List.nil_append, List.length_map]; omega)) ?_
          refine cond_intro (decide_eq_true (by omega)) ?_
          refine cond_intro (decide_eq_true (by simp only [List.nil_append, List.length_map, List.length_append]; omega)) ?_
          simp only [joinOk, h1, h2, h3, h4, Bool.not_false, Bool.true_and] at h
          exact h
noncomputable def s_spec_JoinShapes_vg_vv : Sm := semG [.cell tI, .agg tS, .agg tS, .cell (.slice tF)] (fun x => match x with | (k, u, v, xs, _) => decide (xs.length ≤ 1048576)) fun x => tup (vecRs [.agg [.deep tN], .cell (.imm .bool)] (match x with | (k, u, v, xs, _) => ((joinR k u v xs, ()), joinOk k u v xs, ())))
theorem ok_spec_JoinShapes_vg_vv : FnOk Tryz.prog 79 s_spec_JoinShapes_vg_vv := fnOk_of_give ok_spec_JoinShapes_vg.1

--B unionGo ShapeD → List ShapeD → Option ShapeD
def unionGo : ShapeD → List ShapeD → Option ShapeD
  | u, [] => some u
  | u, v :: r => bif joinOk 5 u v [] then unionGo (joinS 5 u v []) r else none
--B unionO List ShapeD → Option ShapeD
def unionO : List ShapeD → Option ShapeD
  | [] => none
  | s :: r => bif inR ((s :: r).length : Int) 1 16 && validS s then unionGo s r else none

/-! spec.UnionOf -/
noncomputable def a_spec_UnionOf_vg : Nat → Option Ann := fun n => bif Nat.beq n 5 then some ⟨[0,2,4,5],1,true⟩ else none
noncomputable def c_spec_UnionOf_vg : Ctx := mkC Tryz.prog tyT [(59, s_spec_l02Is)] [] [(78, s_spec_l02Own), (79, s_spec_JoinShapes_vg)] 47 a_spec_UnionOf_vg 0 false [] true true
noncomputable def gp_spec_UnionOf_vg : List (List (Option Ty)) := List.map giveR [.agg [.deep tN], .cell (.imm .bool)]
noncomputable def fr_spec_UnionOf_vg_5 (ss : List ShapeD) (u : ShapeD) (i : Int) : Fr := [(0, .vec tS ss), (2, .ptr 0 0), (4, .ptr 1 0), (5, .int .i64 i)]
noncomputable def hp_spec_UnionOf_vg_5 (ss : List ShapeD) (u : ShapeD) (i : Int) : Heap := [.box [.nils], .box [.dob 2 0], .dp 0 0 tN u]
theorem r_spec_UnionOf_vg_5 (ss : List ShapeD) (u : ShapeD) (i : Int) (Kn : Fr → Heap → Prop) (K : V → Heap → Prop) : round c_spec_UnionOf_vg ⟨[0,2,4,5],1,true⟩ (lb c_spec_UnionOf_vg 5 Tryz.f48) (fr_spec_UnionOf_vg_5 ss u i) (hp_spec_UnionOf_vg_5 ss u i) Kn (lkG gp_spec_UnionOf_vg c_spec_UnionOf_vg 5 Tryz.f48 [] K) =
  cond (decide (i < (↑(List.length ss) : Int)))
    (cond (decide (0 ≤ i))
      ((match ss[Int.toNat i]? with
        | some y0 => cond (!joinOk 5 u y0 [])
          (K (.tuple [(.agg [(.dob 0 0)]), (.bool false)]) [(.dp 0 0 (.pair (.int .i64) (.pair (.int .i64) (.pair (.int .i64) (.slice (.float .f32))))) ([]))])
          (Kn [(0, (.vec (.slice (.pair (.int .i64) (.pair (.int .i64) (.pair (.int .i64) (.slice (.float .f32)))))) (ss))), (2, (.ptr 0 0)), (4, (.ptr 1 0)), (5, (.int .i64 (IntKind.wrap IntKind.i64 (i + 1))))] [(.box [.nils]), (.box [(.dob 2 0)]), (.dp 0 0 (.pair (.int .i64) (.pair (.int .i64) (.pair (.int .i64) (.slice (.float .f32))))) (joinR 5 u y0 []))])
        | none => False))
      (False))
    (K (.tuple [(.agg [(.dob 0 0)]), (.bool true)]) [(.dp 0 0 (.pair (.int .i64) (.pair (.int .i64) (.pair (.int .i64) (.slice (.float .f32))))) (u))]) := by kernel_rfl
theorem w_spec_UnionOf_vg (ss : List ShapeD) (K : V → Heap → Prop) : wpFnG gp_spec_UnionOf_vg c_spec_UnionOf_vg Tryz.f48 (encAs [.cell (.slice tS)] (ss, ())) [] K =
  cond (decide ((↑(List.length ss) : Int) < 1))
    (K (.tuple [(.agg [(.dob 0 0)]), (.bool false)]) [(.dp 0 0 (.pair (.int .i64) (.pair (.int .i64) (.pair (.int .i64) (.slice (.float .f32))))) ([]))])
    (cond (decide ((↑(List.length ss) : Int) > 16))
      (K (.tuple [(.agg [(.dob 0 0)]), (.bool false)]) [(.dp 0 0 (.pair (.int .i64) (.pair (.int .i64) (.pair (.int .i64) (.slice (.float .f32))))) ([]))])
      ((match ss[0]? with
        | some y0 => cond (!validS y0)
          (K (.tuple [(.agg [(.dob 0 0)]), (.bool false)]) [(.dp 0 0 (.pair (.int .i64) (.pair (.int .i64) (.pair (.int .i64) (.slice (.float .f32))))) ([]))])
          ((match ss[0]? with
            | some y1 => cond (fitS y1)
              (LoopE c_spec_UnionOf_vg ⟨[0, 2, 4, 5], 1, true⟩ (lb c_spec_UnionOf_vg 5 Tryz.f48) [(0, (.vec (.slice (.pair (.int .i64) (.pair (.int .i64) (.pair (.int .i64) (.slice (.float .f32)))))) (ss))), (2, (.ptr 0 0)), (4, (.ptr 1 0)), (5, (.int .i64 1))] [(.box [.nils]), (.box [(.dob 2 0)]), (.dp 0 0 (.pair (.int .i64) (.pair (.int .i64) (.pair (.int .i64) (.slice (.float .f32))))) (y1))] (lkG gp_spec_UnionOf_vg c_spec_UnionOf_vg 5 Tryz.f48 [] K))
              (False)
            | none => False))
        | none => False))) := by kernel_rfl
noncomputable def s_spec_UnionOf_vg : Sm := semV [.cell (.slice tS)] [.agg [.deep tN], .cell (.imm .bool)] (fun x => match x with | (ss, _) => ss.all fitS) fun x => match x with | (ss, _) => ((((unionO ss).getD []), ()), (unionO ss).isSome, ())
theorem ok_spec_UnionOf_vg : FnOkL Tryz.prog 48 s_spec_UnionOf_vg := fnOkO_give (fnOkO_runG (C := c_spec_UnionOf_vg) gp_spec_UnionOf_vg rfl mixed (.cons ok_spec_l02Is .nil) .nil (.cons ok_spec_l02Own (.cons ok_spec_JoinShapes_vg .nil)) Tryz.func48 (by kernel_rfl)) rfl fun (x : ((List ShapeD) × Unit)) wf hg K h => by
  obtain ⟨ss, ⟨⟩⟩ := x
  replace hg : (ss.all fitS) = true := hg
  replace h : K (tup (valRs [.agg [.deep tN], .cell (.imm .bool)] (((((unionO ss).getD []), ()), (unionO ss).isSome, ())) 0)) (thRs [.agg [.deep tN], .cell (.imm .bool)] (((((unionO ss).getD []), ()), (unionO ss).isSome, ()))) := h
  rw [w_spec_UnionOf_vg ss K]
  have hlen : ss.length ≤ 9223372036854775807 := wf.1.1
  cases hss : ss with
  | nil => subst hss; exact h
  | cons s0 rest =>
  rw [← hss]
  have hl0 : ss.length = rest.length + 1 := by rw [hss]; rfl
  have hU : unionO ss = bif inR (ss.length : Int) 1 16 && validS s0 then unionGo s0 rest else none := by rw [hss]; rfl
  have h0 : ss[0]? = some s0 := by rw [hss]; rfl
  rw [d_f (show ¬ ((ss.length : Nat) : Int) < 1 by omega), cond_false]
  by_cases h16 : ss.length > 16
  · rw [d_t (show ((ss.length : Nat) : Int) > 16 by omega), cond_true]
    have hi : inR (ss.length : Int) 1 16 = false := by unfold inR; rw [d_f (show ¬ ((ss.length : Nat) : Int) ≤ 16 by omega), Bool.and_false]
    rw [hU, hi] at h
    exact h
  · rw [d_f (show ¬ ((ss.length : Nat) : Int) > 16 by omega), cond_false]
    have hi : inR (ss.length : Int) 1 16 = true := inR_iff.2 (by omega)
    rw [hi, Bool.true_and] at hU
    simp only [h0]
    cases hv : validS s0 with
    | false =>
      rw [hU, hv] at h
      exact h
    | true =>
      rw [hv, cond_true] at hU
      simp only [Bool.not_true, cond_false, valid_fit hv, cond_true]
      refine loop_run (σ := Nat × ShapeD) (fun q => fr_spec_UnionOf_vg_5 ss q.2 q.1) (fun q => hp_spec_UnionOf_vg_5 ss q.2 q.1) (fun q => 1 ≤ q.1 ∧ q.1 ≤ ss.length ∧ unionGo q.2 (ss.drop q.1) = unionO ss) (fun q => ss.length - q.1) ?_ (1, s0) ⟨Nat.le_refl _, by simp only; omega, by rw [hU, hss]; rfl⟩
      rintro ⟨i, u⟩ ⟨hi1, hi2, hz⟩ Kn hk
      simp only at hi1 hi2 hz hk ⊢
      rw [r_spec_UnionOf_vg_5 ss u i Kn K]
      by_cases hlt : i < ss.length
      · rw [List.drop_eq_getElem_cons hlt] at hz
        simp only [unionGo] at hz
        simp only [d_lt hlt, d_0, cond_true, Int.toNat_natCast, get_lt hlt]
        generalize ss[i]'hlt = v at *
        cases hj : joinOk 5 u v [] with
        | false =>
          rw [hj, cond_false] at hz
          rw [← hz] at h
          exact h
        | true =>
          rw [hj, cond_true] at hz
          simp only [Bool.not_true, cond_false]
          rw [i64_of (show -9223372036854775808 ≤ (i : Int) + 1 by omega) (by omega)]
          have hR : joinR 5 u v [] = joinS 5 u v [] := by unfold joinR; rw [hj]; rfl
          rw [hR]
          exact hk (i + 1, joinS 5 u v []) ⟨by simp only; omega, hlt, hz⟩ (by simp only; omega)
      · have : i = ss.length := by omega
        subst this
        simp only [d_nlt hlt, cond_false]
        rw [List.drop_of_length_le (Nat.le_refl _)] at hz
        simp only [unionGo] at hz
        rw [← hz] at h
        exact h
noncomputable def s_spec_UnionOf_vg_vv : Sm := semG [.cell (.slice tS)] (fun x => match x with | (ss, _) => ss.all fitS) fun x => tup (vecRs [.agg [.deep tN], .cell (.imm .bool)] (match x with | (ss, _) => ((((unionO ss).getD []), ()), (unionO ss).isSome, ())))
theorem ok_spec_UnionOf_vg_vv : FnOk Tryz.prog 48 s_spec_UnionOf_vg_vv := fnOk_of_give ok_spec_UnionOf_vg.1

theorem sceneB_at {ts : List ThingD} (h : sceneB ts = true) {i : Nat} (hi : i < ts.length) : thingB (ts[i]'hi) = true := by
  unfold sceneB at h
  simp only [Bool.and_eq_true, decide_eq_true_eq] at h
  have := List.all_eq_true.1 h.1 i (by simpa using hi)
  rw [thingAt_eq hi] at this
  simp only [Bool.and_eq_true] at this
  exact this.1
theorem sceneB_len {ts : List ThingD} (h : sceneB ts = true) : ts.length ≤ 8 := by
  unfold sceneB at h
  simp only [Bool.and_eq_true, decide_eq_true_eq] at h
  exact h.2
--B mvL List KeyD → Int → List Nat
def mvL (ks : List KeyD) (t : Int) : List Nat := [(placeV ks t).1, (placeV ks t).2.1, (placeV ks t).2.2]
def atGo (t : Int) : List ShapeD → List ThingD → Option (List ShapeD)
  | out, [] => some out
  | out, th :: r => bif wrapOk 9 th.2.1 0 (mvL th.2.2 t) then atGo t (out ++ [wrapS 9 th.2.1 0 (mvL th.2.2 t)]) r else none
--B atO List ThingD → Int → Option ShapeD
def atO (ts : List ThingD) (t : Int) : Option ShapeD := bif sceneB ts && inR t 0 10000 then (match atGo t [] ts with | some l => unionO l | none => none) else none
theorem atGo_len (t : Int) : ∀ (r : List ThingD) (out l : List ShapeD), atGo t out r = some l → l.length = out.length + r.length
  | [], out, l, h => by cases h; rfl
  | th :: r, out, l, h => by
    simp only [atGo] at h
    cases hw : wrapOk 9 th.2.1 0 (mvL th.2.2 t) with
    | false => rw [hw] at h; cases h
    | true =>
      rw [hw, cond_true] at h
      have := atGo_len t r _ l h
      simp only [List.length_append, List.length_cons, List.length_nil] at this ⊢
      omega
theorem wrapOk_fit {k : Int} {s : ShapeD} {ax : Int} {xs : List Nat} (h : wrapOk k s ax xs = true) : validS (wrapS k s ax xs) = true := by
  unfold wrapOk at h
  simp only [Bool.and_eq_true] at h
  exact h.2.2

/-! spec.ShapeAt -/
noncomputable def a_spec_ShapeAt_vg : Nat → Option Ann := fun n => bif Nat.beq n 5 then some ⟨[1,2,4,6,7],3,false⟩ else none
noncomputable def c_spec_ShapeAt_vg : Ctx := mkC Tryz.prog tyT [(27, s_spec_l10Is), (45, s_spec_l10Time), (46, s_spec_l10Place)] [] [(48, s_spec_UnionOf_vg)] 61 a_spec_ShapeAt_vg 0 false [(47, s_spec_WrapShape_vg_vv)] false true
noncomputable def gp_spec_ShapeAt_vg : List (List (Option Ty)) := List.map giveR [.agg [.deep tN], .cell (.imm .bool)]
noncomputable def fr_spec_ShapeAt_vg_5 (ts : List ThingD) (t : Int) (out : List ShapeD) (i : Int) : Fr := [(1, .int .i64 t), (2, .ptr 0 0), (4, .ptr 1 0), (6, .obj 2 0), (7, .int .i64 i)]
noncomputable def hp_spec_ShapeAt_vg_5 (ts : List ThingD) (t : Int) (out : List ShapeD) (i : Int) : Heap := [.box [.vec tT ts], .box [.nils], .sl 0 tS out]
theorem r_spec_ShapeAt_vg_5 (ts : List ThingD) (t : Int) (out : List ShapeD) (i : Int) (Kn : Fr → Heap → Prop) (K : V → Heap → Prop) : round c_spec_ShapeAt_vg ⟨[1,2,4,6,7],3,false⟩ (lb c_spec_ShapeAt_vg 5 Tryz.f19) (fr_spec_ShapeAt_vg_5 ts t out i) (hp_spec_ShapeAt_vg_5 ts t out i) Kn (lkG gp_spec_ShapeAt_vg c_spec_ShapeAt_vg 5 Tryz.f19 [] K) =
  cond (decide (i < (↑(List.length ts) : Int)))
    (cond (decide (0 ≤ i))
      ((match ts[Int.toNat i]? with
        | some y0 => cond (decide (1 ≤ List.length (Prod.snd (Prod.snd y0))) && decide (List.length (Prod.snd (Prod.snd y0)) ≤ 8))
          (cond (decide (0 ≤ i))
            ((match ts[Int.toNat i]? with
              | some y1 => cond (!wrapOk 9 (Prod.fst (Prod.snd y1)) 0 [Prod.fst (placeV (Prod.snd (Prod.snd y0)) t), Prod.fst (Prod.snd (placeV (Prod.snd (Prod.snd y0)) t)), Prod.snd (Prod.snd (placeV (Prod.snd (Prod.snd y0)) t))])
                (K (.tuple [(.agg [(.dob 0 0)]), (.bool false)]) [(.dp 0 0 (.pair (.int .i64) (.pair (.int .i64) (.pair (.int .i64) (.slice (.float .f32))))) ([]))])
                (cond (decide ((List.length out + 1) * 24 ≤ 140737488355328))
                  (Kn [(1, (.int .i64 (t))), (2, (.ptr 0 0)), (4, (.ptr 1 0)), (6, (.obj 2 0)), (7, (.int .i64 (IntKind.wrap IntKind.i64 (i + 1))))] [(.box [(.vec (.pair .str (.pair (.slice (.pair (.int .i64) (.pair (.int .i64) (.pair (.int .i64) (.slice (.float .f32)))))) (.slice (.pair (.int .i64) (.pair (.float .f32) (.pair (.float .f32) (.float .f32))))))) (ts))]), (.box [.nils]), (.sl 0 (.slice (.pair (.int .i64) (.pair (.int .i64) (.pair (.int .i64) (.slice (.float .f32)))))) (out ++ [wrapR 9 (Prod.fst (Prod.snd y1)) 0 [Prod.fst (placeV (Prod.snd (Prod.snd y0)) t), Prod.fst (Prod.snd (placeV (Prod.snd (Prod.snd y0)) t)), Prod.snd (Prod.snd (placeV (Prod.snd (Prod.snd y0)) t))]]))])
                  (False))
              | none => False))
            (False))
          (False)
        | none => False))
      (False))
    (cond (List.all out fitS)
      (K (.tuple [(.agg [(.dob 0 0)]), (.bool (Option.isSome (unionO out)))]) [(.dp 0 0 (.pair (.int .i64) (.pair (.int .i64) (.pair (.int .i64) (.slice (.float .f32))))) (Option.getD (unionO out) []))])
      (False)) := by kernel_rfl
theorem w_spec_ShapeAt_vg (ts : List ThingD) (t : Int) (K : V → Heap → Prop) : wpFnG gp_spec_ShapeAt_vg c_spec_ShapeAt_vg Tryz.f19 (encAs [.agg (.slice tT), .cell tI] (ts, t, ())) [] K =
  cond (!sceneB ts)
    (K (.tuple [(.agg [(.dob 0 0)]), (.bool false)]) [(.dp 0 0 (.pair (.int .i64) (.pair (.int .i64) (.pair (.int .i64) (.slice (.float .f32))))) ([]))])
    (cond (!inR t 0 10000)
      (K (.tuple [(.agg [(.dob 0 0)]), (.bool false)]) [(.dp 0 0 (.pair (.int .i64) (.pair (.int .i64) (.pair (.int .i64) (.slice (.float .f32))))) ([]))])
      (LoopE c_spec_ShapeAt_vg ⟨[1, 2, 4, 6, 7], 3, false⟩ (lb c_spec_ShapeAt_vg 5 Tryz.f19) [(1, (.int .i64 (t))), (2, (.ptr 0 0)), (4, (.ptr 1 0)), (6, (.obj 2 0)), (7, (.int .i64 0))] [(.box [(.vec (.pair .str (.pair (.slice (.pair (.int .i64) (.pair (.int .i64) (.pair (.int .i64) (.slice (.float .f32)))))) (.slice (.pair (.int .i64) (.pair (.float .f32) (.pair (.float .f32) (.float .f32))))))) (ts))]), (.box [.nils]), (.sl 0 (.slice (.pair (.int .i64) (.pair (.int .i64) (.pair (.int .i64) (.slice (.float .f32)))))) ([]))] (lkG gp_spec_ShapeAt_vg c_spec_ShapeAt_vg 5 Tryz.f19 [] K))) := by kernel_rfl
noncomputable def s_spec_ShapeAt_vg : Sm := semV [.agg (.slice tT), .cell tI] [.agg [.deep tN], .cell (.imm .bool)] (fun x => match x with | (ts, t, _) => true) fun x => match x with | (ts, t, _) => ((((atO ts t).getD []), ()), (atO ts t).isSome, ())
theorem ok_spec_ShapeAt_vg : FnOkL Tryz.prog 19 s_spec_ShapeAt_vg := fnOkO_give (fnOkO_runG (C := c_spec_ShapeAt_vg) gp_spec_ShapeAt_vg rfl mixed (.cons ok_spec_l10Is (.cons ok_spec_l10Time (.cons ok_spec_l10Place .nil))) .nil (.cons ok_spec_UnionOf_vg .nil) Tryz.func19 (by kernel_rfl) (.cons ok_spec_WrapShape_vg_vv .nil)) rfl fun (x : ((List ThingD) × (Int) × Unit)) wf hg K h => by
  obtain ⟨ts, t, ⟨⟩⟩ := x
  replace h : K (tup (valRs [.agg [.deep tN], .cell (.imm .bool)] (((((atO ts t).getD []), ()), (atO ts t).isSome, ())) 0)) (thRs [.agg [.deep tN], .cell (.imm .bool)] (((((atO ts t).getD []), ()), (atO ts t).isSome, ()))) := h
  rw [w_spec_ShapeAt_vg ts t K]
  unfold atO at h
  cases h1 : sceneB ts with
  | false => simp only [h1, Bool.false_and, cond_false, Bool.not_false, cond_true] at h ⊢; exact h
  | true =>
  cases h2 : inR t 0 10000 with
  | false => simp only [h1, h2, Bool.and_false, cond_false, Bool.not_true, Bool.not_false, cond_true] at h ⊢; exact h
  | true =>
  simp only [h1, h2, Bool.and_self, cond_true, Bool.not_true, cond_false] at h ⊢
  have hl8 := sceneB_len h1
  refine loop_run (σ := Nat × List ShapeD) (fun q => fr_spec_ShapeAt_vg_5 ts t q.2 q.1) (fun q => hp_spec_ShapeAt_vg_5 ts t q.2 q.1) (fun q => q.1 ≤ ts.length ∧ q.2.length = q.1 ∧ q.2.all fitS = true ∧ atGo t q.2 (ts.drop q.1) = atGo t [] ts) (fun q => ts.length - q.1) ?_ (0, []) ⟨Nat.zero_le _, rfl, rfl, rfl⟩
  rintro ⟨i, out⟩ ⟨hi, hl, hf, hz⟩ Kn hk
  simp only at hi hl hf hz hk ⊢
  rw [r_spec_ShapeAt_vg_5 ts t out i Kn K]
  by_cases hlt : i < ts.length
  · have ht := sceneB_at h1 hlt
    have hk8 := thingB_keys' ht
    rw [List.drop_eq_getElem_cons hlt] at hz
    simp only [atGo] at hz
    simp only [d_lt hlt, d_0, cond_true, Int.toNat_natCast, get_lt hlt]
    generalize ts[i]'hlt = th at *
    simp only [d_t hk8.1, d_t hk8.2, Bool.and_self, cond_true]
    rw [show [(placeV th.2.2 t).1, (placeV th.2.2 t).2.1, (placeV th.2.2 t).2.2] = mvL th.2.2 t from rfl]
    cases hw : wrapOk 9 th.2.1 0 (mvL th.2.2 t) with
    | false =>
      rw [hw, cond_false] at hz
      rw [← hz] at h
      exact h
    | true =>
      rw [hw, cond_true] at hz
      have hR : wrapR 9 th.2.1 0 (mvL th.2.2 t) = wrapS 9 th.2.1 0 (mvL th.2.2 t) := by unfold wrapR; rw [hw]; rfl
      have hv := valid_fit (wrapOk_fit hw)
      simp only [Bool.not_true, cond_false, hR, d_t (show (out.length + 1) * 24 ≤ 140737488355328 by omega), cond_true]
      rw [i64_of (show -9223372036854775808 ≤ (i : Int) + 1 by omega) (by omega)]
      exact hk (i + 1, out ++ [wrapS 9 th.2.1 0 (mvL th.2.2 t)]) ⟨hlt, by simp only [List.length_append, List.length_cons, List.length_nil]; omega, by rw [List.all_append, hf]; simp only [List.all_cons, hv, List.all_nil, Bool.and_self], hz⟩ (by simp only; omega)
  · have : i = ts.length := by omega
    subst this
    simp only [d_nlt hlt, cond_false, hf, cond_true]
    rw [List.drop_of_length_le (Nat.le_refl _)] at hz
    simp only [atGo] at hz
    rw [← hz] at h
    exact h
noncomputable def s_spec_ShapeAt_vg_vv : Sm := semG [.agg (.slice tT), .cell tI] (fun x => match x with | (ts, t, _) => true) fun x => tup (vecRs [.agg [.deep tN], .cell (.imm .bool)] (match x with | (ts, t, _) => ((((atO ts t).getD []), ()), (atO ts t).isSome, ())))
theorem ok_spec_ShapeAt_vg_vv : FnOk Tryz.prog 19 s_spec_ShapeAt_vg_vv := fnOk_of_give ok_spec_ShapeAt_vg.1

end Go.Proofs.YtbalmdjicdeeiaaGreat
