/- A shape of a scene at a time: the program. -/
import Derived.Test.YtbalmdjicdeeiaaGreatAt
set_option linter.unusedVariables false
set_option linter.unusedSimpArgs false
set_option maxRecDepth 100000
namespace Go.Proofs.YtbalmdjicdeeiaaGreat
open Go.Ev

theorem valid_ne {s : ShapeD} (h : validS s = true) : (!s.isEmpty) = true := by
  have := valid_len h
  cases s with
  | nil => simp at this
  | cons _ _ => rfl
theorem inR_no {k lo hi a c : Int} (h : inR k a c = false) (h1 : a ≤ lo) (h2 : hi ≤ c) : inR k lo hi = false := by
  cases e : inR k lo hi with
  | false => rfl
  | true =>
    have := inR_iff.1 e
    have e2 : inR k a c = true := inR_iff.2 (by omega)
    rw [h] at e2; cases e2
theorem wrapK (k : Int) : (isK k && kindC k == 1) = inR k 9 16 := by
  cases h : isK k with
  | false => rw [Bool.false_and]; exact (inR_no h (by omega) (by omega)).symm
  | true => rcases kinds h with r | r | r | r | r | r | r | r | r | r | r | r | r | r | r | r | r <;> subst r <;> decide
theorem joinK (k : Int) : (isK k && kindC k == 2) = inR k 5 8 := by
  cases h : isK k with
  | false => rw [Bool.false_and]; exact (inR_no h (by omega) (by omega)).symm
  | true => rcases kinds h with r | r | r | r | r | r | r | r | r | r | r | r | r | r | r | r | r <;> subst r <;> decide
theorem kindC0 {k : Int} (h : isK k = true) : decide (kindC k > 0) = !inR k 0 4 := by
  rcases kinds h with r | r | r | r | r | r | r | r | r | r | r | r | r | r | r | r | r <;> subst r <;> decide
theorem kindC1 {k : Int} (h : isK k = true) : decide (kindC k > 1) = inR k 5 8 := by
  rcases kinds h with r | r | r | r | r | r | r | r | r | r | r | r | r | r | r | r | r <;> subst r <;> decide
theorem joinS_len (k : Int) (u v : ShapeD) (xs : List Nat) : (joinS k u v xs).length = u.length + v.length + 1 := by
  unfold joinS
  simp only [List.length_append, List.length_map, List.length_cons, List.length_nil]
theorem joinBig (k : Int) (u v : ShapeD) (xs : List Nat) : (!decide ((u.length : Int) + v.length ≥ 16) && validS (joinS k u v xs)) = validS (joinS k u v xs) := by
  cases h : validS (joinS k u v xs) with
  | false => rw [Bool.and_false]
  | true =>
    have := valid_len h
    rw [joinS_len] at this
    rw [d_f (show ¬ (u.length : Int) + v.length ≥ 16 by omega)]
    rfl

/-! (*impl.Shape).last -/
noncomputable def c_impl_Shape_last : Ctx := mkC Tryz.prog tyT [] [] [] 9 (fun _ => none) 0
theorem w_impl_Shape_last (s : ShapeD) (K : V → Heap → Prop) : wpFn c_impl_Shape_last Tryz.f83 (encAs [.ref tS] (s, ())) [] K =
  K (.int .i64 (IntKind.wrap IntKind.i64 ((↑(List.length s) : Int) - 1))) [] := by kernel_rfl
noncomputable def s_impl_Shape_last : Sm := semT [.ref tS] fun x => match x with | (s, _) => .int .i64 (IntKind.i64.wrap ((s.length : Int) - 1))
theorem ok_impl_Shape_last : FnOk Tryz.prog 83 s_impl_Shape_last := fnOk_typed (fnOk_runC (C := c_impl_Shape_last) rfl mixed .nil .nil .nil Tryz.func83 (by kernel_rfl)) fun (x : ((ShapeD) × Unit)) wf K h => by
  obtain ⟨s, ⟨⟩⟩ := x
  replace h : K (.int .i64 (IntKind.i64.wrap ((s.length : Int) - 1))) [] := h
  rw [w_impl_Shape_last s K]
  exact h

/-! impl.told -/
noncomputable def c_impl_told : Ctx := mkC Tryz.prog tyT [(67, s_impl_ValidShape)] [] [(82, s_impl_cloneShape)] 10 (fun _ => none) 0 false [] true
noncomputable def gp_impl_told : List (List (Option Ty)) := List.map giveR [.agg [.deep tN], .cell (.imm .bool)]
theorem w_impl_told (s : ShapeD) (K : V → Heap → Prop) : wpFnG gp_impl_told c_impl_told Tryz.f84 (encAs [.agg tS] (s, ())) [] K =
  cond (!validS s)
    (K (.tuple [(.agg [(.dob 0 0)]), (.bool false)]) [(.dp 0 0 (.pair (.int .i64) (.pair (.int .i64) (.pair (.int .i64) (.slice (.float .f32))))) ([]))])
    (cond (fitS s)
      (K (.tuple [(.agg [(.dob 0 0)]), (.bool true)]) [(.dp 0 0 (.pair (.int .i64) (.pair (.int .i64) (.pair (.int .i64) (.slice (.float .f32))))) (s))])
      (False)) := by kernel_rfl
noncomputable def s_impl_told : Sm := semV [.agg tS] [.agg [.deep tN], .cell (.imm .bool)] (fun x => match x with | (s, _) => true) fun x => match x with | (s, _) => (((bif validS s then s else []), ()), validS s, ())
theorem ok_impl_told : FnOkL Tryz.prog 84 s_impl_told := fnOkO_give (fnOkO_runG (C := c_impl_told) gp_impl_told rfl mixed (.cons ok_impl_ValidShape .nil) .nil (.cons ok_impl_cloneShape .nil) Tryz.func84 (by kernel_rfl)) rfl fun (x : ((ShapeD) × Unit)) wf hg K h => by
  obtain ⟨s, ⟨⟩⟩ := x
  replace h : K (tup (valRs [.agg [.deep tN], .cell (.imm .bool)] ((((bif validS s then s else []), ()), validS s, ())) 0)) (thRs [.agg [.deep tN], .cell (.imm .bool)] ((((bif validS s then s else []), ()), validS s, ()))) := h
  rw [w_impl_told s K]
  cases h1 : validS s with
  | false => simp only [h1, Bool.not_false, cond_true, cond_false] at h ⊢; exact h
  | true => simp only [h1, valid_fit h1, Bool.not_true, cond_true, cond_false] at h ⊢; exact h
noncomputable def s_impl_told_vv : Sm := semG [.agg tS] (fun x => match x with | (s, _) => true) fun x => tup (vecRs [.agg [.deep tN], .cell (.imm .bool)] (match x with | (s, _) => (((bif validS s then s else []), ()), validS s, ())))
theorem ok_impl_told_vv : FnOk Tryz.prog 84 s_impl_told_vv := fnOk_of_give ok_impl_told.1

/-! impl.cloneShape -/
noncomputable def a_impl_cloneShape_vs : Nat → Option Ann := fun n => bif Nat.beq n 3 then some ⟨[2,3,8,9,10],3,true⟩ else none
noncomputable def c_impl_cloneShape_vs : Ctx := mkC Tryz.prog tyT [(111, s_impl_cloneNode_vv)] [] [] 23 a_impl_cloneShape_vs 0
noncomputable def gp_impl_cloneShape_vs : List (List (Option Ty)) := List.map giveR [.agg [.own tN]]
noncomputable def fr_impl_cloneShape_vs_3 (s zs : ShapeD) (n i m : Int) : Fr := [(2, .ptr 1 0), (3, .ptr 2 0), (8, .vec tN s), (9, .int .i64 n), (10, .int .i64 i)]
noncomputable def hp_impl_cloneShape_vs_3 (s zs : ShapeD) (n i m : Int) : Heap := (match m with | 0 => [.box [.vec tN s], .box [.nils], .box [.nils]] | _ => [.box [.vec tN s], .box [.nils], .box [.obj 3 0], .sl 0 tN zs])
theorem r_impl_cloneShape_vs_3_0 (s zs : ShapeD) (n i : Int) (Kn : Fr → Heap → Prop) (K : V → Heap → Prop) : round c_impl_cloneShape_vs ⟨[2,3,8,9,10],3,true⟩ (lb c_impl_cloneShape_vs 3 Tryz.f82) (fr_impl_cloneShape_vs_3 s zs n i (0 : Int)) (hp_impl_cloneShape_vs_3 s zs n i (0 : Int)) Kn (lkG gp_impl_cloneShape_vs c_impl_cloneShape_vs 3 Tryz.f82 [] K) =
  cond (decide (i < n))
    (cond (decide (0 ≤ i))
      ((match s[Int.toNat i]? with
        | some y0 => cond (decide (List.length (Prod.snd (Prod.snd (Prod.snd y0))) ≤ 1048576))
          (Kn [(2, (.ptr 1 0)), (3, (.ptr 2 0)), (8, (.vec (.pair (.int .i64) (.pair (.int .i64) (.pair (.int .i64) (.slice (.float .f32))))) (s))), (9, (.int .i64 (n))), (10, (.int .i64 (IntKind.wrap IntKind.i64 (i + 1))))] [(.box [(.vec (.pair (.int .i64) (.pair (.int .i64) (.pair (.int .i64) (.slice (.float .f32))))) (s))]), (.box [.nils]), (.box [(.obj 3 0)]), (.sl 0 (.pair (.int .i64) (.pair (.int .i64) (.pair (.int .i64) (.slice (.float .f32))))) ([y0]))])
          (False)
        | none => False))
      (False))
    (K (.agg [(.dob 0 0)]) [(.dp 0 0 (.pair (.int .i64) (.pair (.int .i64) (.pair (.int .i64) (.slice (.float .f32))))) ([]))]) := by kernel_rfl
theorem r_impl_cloneShape_vs_3_1 (s zs : ShapeD) (n i : Int) (Kn : Fr → Heap → Prop) (K : V → Heap → Prop) : round c_impl_cloneShape_vs ⟨[2,3,8,9,10],3,true⟩ (lb c_impl_cloneShape_vs 3 Tryz.f82) (fr_impl_cloneShape_vs_3 s zs n i (1 : Int)) (hp_impl_cloneShape_vs_3 s zs n i (1 : Int)) Kn (lkG gp_impl_cloneShape_vs c_impl_cloneShape_vs 3 Tryz.f82 [] K) =
  cond (decide (i < n))
    (cond (decide (0 ≤ i))
      ((match s[Int.toNat i]? with
        | some y0 => cond (decide (List.length (Prod.snd (Prod.snd (Prod.snd y0))) ≤ 1048576))
          (cond (decide ((List.length zs + 1) * 48 ≤ 140737488355328))
            (Kn [(2, (.ptr 1 0)), (3, (.ptr 2 0)), (8, (.vec (.pair (.int .i64) (.pair (.int .i64) (.pair (.int .i64) (.slice (.float .f32))))) (s))), (9, (.int .i64 (n))), (10, (.int .i64 (IntKind.wrap IntKind.i64 (i + 1))))] [(.box [(.vec (.pair (.int .i64) (.pair (.int .i64) (.pair (.int .i64) (.slice (.float .f32))))) (s))]), (.box [.nils]), (.box [(.obj 3 0)]), (.sl 0 (.pair (.int .i64) (.pair (.int .i64) (.pair (.int .i64) (.slice (.float .f32))))) (zs ++ [y0]))])
            (False))
          (False)
        | none => False))
      (False))
    (K (.agg [(.obj 0 0)]) [(.sl 0 (.pair (.int .i64) (.pair (.int .i64) (.pair (.int .i64) (.slice (.float .f32))))) (zs))]) := by kernel_rfl
theorem w_impl_cloneShape_vs (s : ShapeD) (K : V → Heap → Prop) : wpFnG gp_impl_cloneShape_vs c_impl_cloneShape_vs Tryz.f82 (encAs [.agg tS] (s, ())) [] K =
  LoopE c_impl_cloneShape_vs ⟨[2, 3, 8, 9, 10], 3, true⟩ (lb c_impl_cloneShape_vs 3 Tryz.f82) [(2, (.ptr 1 0)), (3, (.ptr 2 0)), (8, (.vec (.pair (.int .i64) (.pair (.int .i64) (.pair (.int .i64) (.slice (.float .f32))))) (s))), (9, (.int .i64 ((↑(List.length s) : Int)))), (10, (.int .i64 0))] [(.box [(.vec (.pair (.int .i64) (.pair (.int .i64) (.pair (.int .i64) (.slice (.float .f32))))) (s))]), (.box [.nils]), (.box [.nils])] (lkG gp_impl_cloneShape_vs c_impl_cloneShape_vs 3 Tryz.f82 [] K) := by kernel_rfl
noncomputable def s_impl_cloneShape_vs : Sm := semV [.agg tS] [.agg [.own tN]] (fun x => match x with | (s, _) => fitS s && !s.isEmpty) fun x => match x with | (s, _) => ((s, ()), ())
theorem ok_impl_cloneShape_vs : FnOkL Tryz.prog 82 s_impl_cloneShape_vs := fnOkO_give (fnOkO_runG (C := c_impl_cloneShape_vs) gp_impl_cloneShape_vs rfl mixed (.cons ok_impl_cloneNode_vv .nil) .nil .nil Tryz.func82 (by kernel_rfl)) rfl fun (x : ((ShapeD) × Unit)) wf hg K h => by
  obtain ⟨s, ⟨⟩⟩ := x
  replace hg : (fitS s && !s.isEmpty) = true := hg
  replace h : K (tup (valRs [.agg [.own tN]] (((s, ()), ())) 0)) (thRs [.agg [.own tN]] (((s, ()), ()))) := h
  rw [w_impl_cloneShape_vs s K]
  simp only [Bool.and_eq_true] at hg
  obtain ⟨hg, hne⟩ := hg
  have h0 : 0 < s.length := by cases s with | nil => cases hne | cons _ _ => simp
  have g3 := fitS_len hg
  refine loop_run (σ := Nat) (fun i => fr_impl_cloneShape_vs_3 s [] s.length i 0) (fun i => match i with | 0 => hp_impl_cloneShape_vs_3 s [] s.length 0 0 | j + 1 => hp_impl_cloneShape_vs_3 s (s.take (j + 1)) s.length 0 1) (fun i => i ≤ s.length) (fun i => s.length - i) ?_ 0 (Nat.zero_le _)
  intro i hi Kn hk
  cases i with
  | zero =>
    refine Eq.mpr (r_impl_cloneShape_vs_3_0 s [] s.length ((0 : Nat) : Int) Kn K) ?_
    have hf := fitS_at hg h0
    simp only [d_lt h0, d_0, cond_true, Int.toNat_natCast, get_lt h0, d_t hf]
    rw [i64_of (show -9223372036854775808 ≤ ((0 : Nat) : Int) + 1 by omega) (by omega)]
    have := hk 1 h0 (by omega)
    simp only [take_one h0, List.take_zero, List.nil_append] at this
    exact this
  | succ j =>
    refine Eq.mpr (r_impl_cloneShape_vs_3_1 s (s.take (j + 1)) s.length ((j + 1 : Nat) : Int) Kn K) ?_
    by_cases hlt : j + 1 < s.length
    · have hf := fitS_at hg hlt
      have hl : (s.take (j + 1)).length = j + 1 := by rw [List.length_take]; omega
      simp only [d_lt hlt, d_0, cond_true, Int.toNat_natCast, get_lt hlt, d_t hf, hl, d_t (show (j + 1 + 1) * 48 ≤ 140737488355328 by omega)]
      rw [i64_of (show -9223372036854775808 ≤ ((j + 1 : Nat) : Int) + 1 by omega) (by omega)]
      have := hk (j + 1 + 1) hlt (by omega)
      simp only [take_one hlt] at this
      exact this
    · have : j + 1 = s.length := by omega
      simp only [d_nlt hlt, cond_false]
      rw [this, List.take_length]
      exact h
noncomputable def s_impl_cloneShape_vs_vv : Sm := semG [.agg tS] (fun x => match x with | (s, _) => fitS s && !s.isEmpty) fun x => tup (vecRs [.agg [.own tN]] (match x with | (s, _) => ((s, ()), ())))
theorem ok_impl_cloneShape_vs_vv : FnOk Tryz.prog 82 s_impl_cloneShape_vs_vv := fnOk_of_give ok_impl_cloneShape_vs.1

/-! impl.WrapShape -/
noncomputable def c_impl_WrapShape_vg : Ctx := mkC Tryz.prog tyT [(81, s_impl_ruleOf), (67, s_impl_ValidShape), (83, s_impl_Shape_last)] [] [(82, s_impl_cloneShape_vs), (84, s_impl_told)] 47 (fun _ => none) 0 false [] false true
noncomputable def gp_impl_WrapShape_vg : List (List (Option Ty)) := List.map giveR [.agg [.deep tN], .cell (.imm .bool)]
theorem w_impl_WrapShape_vg (k : Int) (s : ShapeD) (ax : Int) (xs : List Nat) (K : V → Heap → Prop) : wpFnG gp_impl_WrapShape_vg c_impl_WrapShape_vg Tryz.f52 (encAs [.cell tI, .agg tS, .cell tI, .cell (.slice tF)] (k, s, ax, xs, ())) [] K =
  cond (!isK k)
    (K (.tuple [(.agg [(.dob 0 0)]), (.bool false)]) [(.dp 0 0 (.pair (.int .i64) (.pair (.int .i64) (.pair (.int .i64) (.slice (.float .f32))))) ([]))])
    (cond (kindC k != 1)
      (K (.tuple [(.agg [(.dob 0 0)]), (.bool false)]) [(.dp 0 0 (.pair (.int .i64) (.pair (.int .i64) (.pair (.int .i64) (.slice (.float .f32))))) ([]))])
      (cond (!validS s)
        (K (.tuple [(.agg [(.dob 0 0)]), (.bool false)]) [(.dp 0 0 (.pair (.int .i64) (.pair (.int .i64) (.pair (.int .i64) (.slice (.float .f32))))) ([]))])
        (cond (fitS s && !List.isEmpty s)
          (cond (decide ((List.length s + 1) * 48 ≤ 140737488355328))
            (K (.tuple [(.agg [(.dob 0 0)]), (.bool (validS (s ++ [(k, IntKind.wrap IntKind.i64 ((↑(List.length s) : Int) - 1), ax, xs)])))]) [(.dp 0 0 (.pair (.int .i64) (.pair (.int .i64) (.pair (.int .i64) (.slice (.float .f32))))) (bif validS (s ++ [(k, IntKind.wrap IntKind.i64 ((↑(List.length s) : Int) - 1), ax, xs)]) then s ++ [(k, IntKind.wrap IntKind.i64 ((↑(List.length s) : Int) - 1), ax, xs)] else []))])
            (False))
          (False)))) := by kernel_rfl
noncomputable def s_impl_WrapShape_vg : Sm := semV [.cell tI, .agg tS, .cell tI, .cell (.slice tF)] [.agg [.deep tN], .cell (.imm .bool)] (fun x => match x with | (k, s, ax, xs, _) => decide (xs.length ≤ 1048576)) fun x => match x with | (k, s, ax, xs, _) => ((wrapR k s ax xs, ()), wrapOk k s ax xs, ())
theorem ok_impl_WrapShape_vg : FnOkL Tryz.prog 52 s_impl_WrapShape_vg := fnOkO_give (fnOkO_runG (C := c_impl_WrapShape_vg) gp_impl_WrapShape_vg rfl mixed (.cons ok_impl_ruleOf (.cons ok_impl_ValidShape (.cons ok_impl_Shape_last .nil))) .nil (.cons ok_impl_cloneShape_vs (.cons ok_impl_told .nil)) Tryz.func52 (by kernel_rfl)) rfl fun (x : ((Int) × (ShapeD) × (Int) × (List Nat) × Unit)) wf hg K h => by
  obtain ⟨k, s, ax, xs, ⟨⟩⟩ := x
  replace hg : (decide (xs.length ≤ 1048576)) = true := hg
  replace h : K (tup (valRs [.agg [.deep tN], .cell (.imm .bool)] (((wrapR k s ax xs, ()), wrapOk k s ax xs, ())) 0)) (thRs [.agg [.deep tN], .cell (.imm .bool)] (((wrapR k s ax xs, ()), wrapOk k s ax xs, ()))) := h
  rw [w_impl_WrapShape_vg k s ax xs K]
  have hg := of_decide_eq_true hg
  unfold wrapR at h
  cases hk : isK k with
  | false =>
    have e : inR k 9 16 = false := by rw [← wrapK, hk, Bool.false_and]
    simp only [wrapOk, e, Bool.false_and, Bool.and_false, cond_false] at h
    exact h
  | true =>
  cases hc : kindC k == 1 with
  | false =>
    have e : inR k 9 16 = false := by rw [← wrapK, hk, hc, Bool.true_and]
    simp only [wrapOk, e, Bool.false_and, Bool.and_false, cond_false] at h
    simp only [Bool.not_true, cond_false, bne, hc, Bool.not_false, cond_true]
    exact h
  | true =>
  have e : inR k 9 16 = true := by rw [← wrapK, hk, hc, Bool.true_and]
  simp only [wrapOk, e, Bool.true_and] at h
  simp only [Bool.not_true, cond_false, bne, hc]
  cases h1 : validS s with
  | false =>
    rw [h1] at h
    exact h
  | true =>
    have hl := valid_len h1
    have hw : IntKind.i64.wrap ((s.length : Int) - 1) = (s.length : Int) - 1 := i64_of (by omega) (by omega)
    simp only [h1, Bool.true_and] at h
    simp only [Bool.not_true, cond_false, hw]
    refine cond_intro (by rw [valid_fit h1, valid_ne h1]; rfl) ?_
    refine cond_intro (decide_eq_true (by omega)) ?_
    exact h
noncomputable def s_impl_WrapShape_vg_vv : Sm := semG [.cell tI, .agg tS, .cell tI, .cell (.slice tF)] (fun x => match x with | (k, s, ax, xs, _) => decide (xs.length ≤ 1048576)) fun x => tup (vecRs [.agg [.deep tN], .cell (.imm .bool)] (match x with | (k, s, ax, xs, _) => ((wrapR k s ax xs, ()), wrapOk k s ax xs, ())))
theorem ok_impl_WrapShape_vg_vv : FnOk Tryz.prog 52 s_impl_WrapShape_vg_vv := fnOk_of_give ok_impl_WrapShape_vg.1

/-! impl.JoinShapes -/
noncomputable def a_impl_JoinShapes_vg : Nat → Option Ann := fun n => bif Nat.beq n 6 then some ⟨[0,3,5,8,12,13,47,48,49],0,true⟩ else none
noncomputable def c_impl_JoinShapes_vg : Ctx := mkC Tryz.prog tyT [(81, s_impl_ruleOf), (67, s_impl_ValidShape), (83, s_impl_Shape_last)] [] [(82, s_impl_cloneShape_vs), (84, s_impl_told)] 96 a_impl_JoinShapes_vg 0 false [] false true
noncomputable def gp_impl_JoinShapes_vg : List (List (Option Ty)) := List.map giveR [.agg [.deep tN], .cell (.imm .bool)]
noncomputable def fr_impl_JoinShapes_vg_6 (k : Int) (xs : List Nat) (u v out : ShapeD) (d n i : Int) : Fr := [(0, .int .i64 k), (3, .vec tF xs), (5, .ptr 0 0), (8, .ptr 1 0), (12, .ptr 2 0), (13, .int .i64 d), (47, .vec tN v), (48, .int .i64 n), (49, .int .i64 i)]
noncomputable def hp_impl_JoinShapes_vg_6 (k : Int) (xs : List Nat) (u v out : ShapeD) (d n i : Int) : Heap := [.box [.vec tN u], .box [.nils], .box [.obj 3 0], .sl 0 tN out]
theorem r_impl_JoinShapes_vg_6 (k : Int) (xs : List Nat) (u v out : ShapeD) (d n i : Int) (Kn : Fr → Heap → Prop) (K : V → Heap → Prop) : round c_impl_JoinShapes_vg ⟨[0,3,5,8,12,13,47,48,49],0,true⟩ (lb c_impl_JoinShapes_vg 6 Tryz.f85) (fr_impl_JoinShapes_vg_6 k xs u v out d n i) (hp_impl_JoinShapes_vg_6 k xs u v out d n i) Kn (lkG gp_impl_JoinShapes_vg c_impl_JoinShapes_vg 6 Tryz.f85 [] K) =
  cond (decide (i < n))
    (cond (decide (0 ≤ i))
      ((match v[Int.toNat i]? with
        | some y0 => cond (decide (kindC (Prod.fst y0) > 0))
          (cond (decide (kindC (Prod.fst y0) > 1))
            (cond (decide ((List.length out + 1) * 48 ≤ 140737488355328))
              (Kn [(0, (.int .i64 (k))), (3, (.vec (.float .f32) (xs))), (5, (.ptr 0 0)), (8, (.ptr 1 0)), (12, (.ptr 2 0)), (13, (.int .i64 (d))), (47, (.vec (.pair (.int .i64) (.pair (.int .i64) (.pair (.int .i64) (.slice (.float .f32))))) (v))), (48, (.int .i64 (n))), (49, (.int .i64 (IntKind.wrap IntKind.i64 (i + 1))))] [(.box [(.vec (.pair (.int .i64) (.pair (.int .i64) (.pair (.int .i64) (.slice (.float .f32))))) (u))]), (.box [.nils]), (.box [(.obj 3 0)]), (.sl 0 (.pair (.int .i64) (.pair (.int .i64) (.pair (.int .i64) (.slice (.float .f32))))) (out ++ [(Prod.fst y0, IntKind.wrap IntKind.i64 (Prod.fst (Prod.snd y0) + d), IntKind.wrap IntKind.i64 (Prod.fst (Prod.snd (Prod.snd y0)) + d), Prod.snd (Prod.snd (Prod.snd y0)))]))])
              (False))
            (cond (decide ((List.length out + 1) * 48 ≤ 140737488355328))
              (Kn [(0, (.int .i64 (k))), (3, (.vec (.float .f32) (xs))), (5, (.ptr 0 0)), (8, (.ptr 1 0)), (12, (.ptr 2 0)), (13, (.int .i64 (d))), (47, (.vec (.pair (.int .i64) (.pair (.int .i64) (.pair (.int .i64) (.slice (.float .f32))))) (v))), (48, (.int .i64 (n))), (49, (.int .i64 (IntKind.wrap IntKind.i64 (i + 1))))] [(.box [(.vec (.pair (.int .i64) (.pair (.int .i64) (.pair (.int .i64) (.slice (.float .f32))))) (u))]), (.box [.nils]), (.box [(.obj 3 0)]), (.sl 0 (.pair (.int .i64) (.pair (.int .i64) (.pair (.int .i64) (.slice (.float .f32))))) (out ++ [(Prod.fst y0, IntKind.wrap IntKind.i64 (Prod.fst (Prod.snd y0) + d), Prod.snd (Prod.snd y0))]))])
              (False)))
          (cond (decide (kindC (Prod.fst y0) > 1))
            (cond (decide ((List.length out + 1) * 48 ≤ 140737488355328))
              (Kn [(0, (.int .i64 (k))), (3, (.vec (.float .f32) (xs))), (5, (.ptr 0 0)), (8, (.ptr 1 0)), (12, (.ptr 2 0)), (13, (.int .i64 (d))), (47, (.vec (.pair (.int .i64) (.pair (.int .i64) (.pair (.int .i64) (.slice (.float .f32))))) (v))), (48, (.int .i64 (n))), (49, (.int .i64 (IntKind.wrap IntKind.i64 (i + 1))))] [(.box [(.vec (.pair (.int .i64) (.pair (.int .i64) (.pair (.int .i64) (.slice (.float .f32))))) (u))]), (.box [.nils]), (.box [(.obj 3 0)]), (.sl 0 (.pair (.int .i64) (.pair (.int .i64) (.pair (.int .i64) (.slice (.float .f32))))) (out ++ [(Prod.fst y0, Prod.fst (Prod.snd y0), IntKind.wrap IntKind.i64 (Prod.fst (Prod.snd (Prod.snd y0)) + d), Prod.snd (Prod.snd (Prod.snd y0)))]))])
              (False))
            (cond (decide ((List.length out + 1) * 48 ≤ 140737488355328))
              (Kn [(0, (.int .i64 (k))), (3, (.vec (.float .f32) (xs))), (5, (.ptr 0 0)), (8, (.ptr 1 0)), (12, (.ptr 2 0)), (13, (.int .i64 (d))), (47, (.vec (.pair (.int .i64) (.pair (.int .i64) (.pair (.int .i64) (.slice (.float .f32))))) (v))), (48, (.int .i64 (n))), (49, (.int .i64 (IntKind.wrap IntKind.i64 (i + 1))))] [(.box [(.vec (.pair (.int .i64) (.pair (.int .i64) (.pair (.int .i64) (.slice (.float .f32))))) (u))]), (.box [.nils]), (.box [(.obj 3 0)]), (.sl 0 (.pair (.int .i64) (.pair (.int .i64) (.pair (.int .i64) (.slice (.float .f32))))) (out ++ [y0]))])
              (False)))
        | none => False))
      (False))
    (cond (decide ((List.length out + 1) * 48 ≤ 140737488355328))
      (K (.tuple [(.agg [(.dob 0 0)]), (.bool (validS (out ++ [(k, IntKind.wrap IntKind.i64 ((↑(List.length u) : Int) - 1), IntKind.wrap IntKind.i64 ((↑(List.length out) : Int) - 1), xs)])))]) [(.dp 0 0 (.pair (.int .i64) (.pair (.int .i64) (.pair (.int .i64) (.slice (.float .f32))))) (bif validS (out ++ [(k, IntKind.wrap IntKind.i64 ((↑(List.length u) : Int) - 1), IntKind.wrap IntKind.i64 ((↑(List.length out) : Int) - 1), xs)]) then out ++ [(k, IntKind.wrap IntKind.i64 ((↑(List.length u) : Int) - 1), IntKind.wrap IntKind.i64 ((↑(List.length out) : Int) - 1), xs)] else []))])
      (False)) := by kernel_rfl
theorem w_impl_JoinShapes_vg (k : Int) (u v : ShapeD) (xs : List Nat) (K : V → Heap → Prop) : wpFnG gp_impl_JoinShapes_vg c_impl_JoinShapes_vg Tryz.f85 (encAs [.cell tI, .agg tS, .agg tS, .cell (.slice tF)] (k, u, v, xs, ())) [] K =
  cond (!isK k)
    (K (.tuple [(.agg [(.dob 0 0)]), (.bool false)]) [(.dp 0 0 (.pair (.int .i64) (.pair (.int .i64) (.pair (.int .i64) (.slice (.float .f32))))) ([]))])
    (cond (kindC k != 2)
      (K (.tuple [(.agg [(.dob 0 0)]), (.bool false)]) [(.dp 0 0 (.pair (.int .i64) (.pair (.int .i64) (.pair (.int .i64) (.slice (.float .f32))))) ([]))])
      (cond (!validS u)
        (K (.tuple [(.agg [(.dob 0 0)]), (.bool false)]) [(.dp 0 0 (.pair (.int .i64) (.pair (.int .i64) (.pair (.int .i64) (.slice (.float .f32))))) ([]))])
        (cond (!validS v)
          (K (.tuple [(.agg [(.dob 0 0)]), (.bool false)]) [(.dp 0 0 (.pair (.int .i64) (.pair (.int .i64) (.pair (.int .i64) (.slice (.float .f32))))) ([]))])
          (cond (fitS u && !List.isEmpty u)
            (LoopE c_impl_JoinShapes_vg ⟨[0, 3, 5, 8, 12, 13, 47, 48, 49], 0, true⟩ (lb c_impl_JoinShapes_vg 6 Tryz.f85) [(0, (.int .i64 (k))), (3, (.vec (.float .f32) (xs))), (5, (.ptr 0 0)), (8, (.ptr 1 0)), (12, (.ptr 2 0)), (13, (.int .i64 ((↑(List.length u) : Int)))), (47, (.vec (.pair (.int .i64) (.pair (.int .i64) (.pair (.int .i64) (.slice (.float .f32))))) (v))), (48, (.int .i64 ((↑(List.length v) : Int)))), (49, (.int .i64 0))] [(.box [(.vec (.pair (.int .i64) (.pair (.int .i64) (.pair (.int .i64) (.slice (.float .f32))))) (u))]), (.box [.nils]), (.box [(.obj 3 0)]), (.sl 0 (.pair (.int .i64) (.pair (.int .i64) (.pair (.int .i64) (.slice (.float .f32))))) (u))] (lkG gp_impl_JoinShapes_vg c_impl_JoinShapes_vg 6 Tryz.f85 [] K))
            (False))))) := by kernel_rfl
noncomputable def s_impl_JoinShapes_vg : Sm := semV [.cell tI, .agg tS, .agg tS, .cell (.slice tF)] [.agg [.deep tN], .cell (.imm .bool)] (fun x => match x with | (k, u, v, xs, _) => decide (xs.length ≤ 1048576)) fun x => match x with | (k, u, v, xs, _) => ((joinR k u v xs, ()), joinOk k u v xs, ())
theorem ok_impl_JoinShapes_vg : FnOkL Tryz.prog 85 s_impl_JoinShapes_vg := fnOkO_give (fnOkO_runG (C := c_impl_JoinShapes_vg) gp_impl_JoinShapes_vg rfl mixed (.cons ok_impl_ruleOf (.cons ok_impl_ValidShape (.cons ok_impl_Shape_last .nil))) .nil (.cons ok_impl_cloneShape_vs (.cons ok_impl_told .nil)) Tryz.func85 (by kernel_rfl)) rfl fun (x : ((Int) × (ShapeD) × (ShapeD) × (List Nat) × Unit)) wf hg K h => by
  obtain ⟨k, u, v, xs, ⟨⟩⟩ := x
  replace hg : (decide (xs.length ≤ 1048576)) = true := hg
  replace h : K (tup (valRs [.agg [.deep tN], .cell (.imm .bool)] (((joinR k u v xs, ()), joinOk k u v xs, ())) 0)) (thRs [.agg [.deep tN], .cell (.imm .bool)] (((joinR k u v xs, ()), joinOk k u v xs, ()))) := h
  rw [w_impl_JoinShapes_vg k u v xs K]
  have hg := of_decide_eq_true hg
  unfold joinR at h
  cases hk : isK k with
  | false =>
    have e : inR k 5 8 = false := by rw [← joinK, hk, Bool.false_and]
    simp only [joinOk, e, Bool.false_and, Bool.and_false, cond_false] at h
    exact h
  | true =>
  cases hc : kindC k == 2 with
  | false =>
    have e : inR k 5 8 = false := by rw [← joinK, hk, hc, Bool.true_and]
    simp only [joinOk, e, Bool.false_and, Bool.and_false, cond_false] at h
    simp only [Bool.not_true, cond_false, bne, hc, Bool.not_false, cond_true]
    exact h
  | true =>
  have e : inR k 5 8 = true := by rw [← joinK, hk, hc, Bool.true_and]
  simp only [joinOk, e, Bool.true_and, joinBig] at h
  simp only [Bool.not_true, cond_false, bne, hc]
  cases h1 : validS u with
  | false =>
    rw [h1] at h
    exact h
  | true =>
  simp only [h1, Bool.true_and] at h
  simp only [Bool.not_true, cond_false]
  cases h2 : validS v with
  | false =>
    rw [h2] at h
    exact h
  | true =>
  simp only [h2, Bool.true_and] at h
  simp only [Bool.not_true, cond_false]
  have hl := valid_len h1
  have hl2 := valid_len h2
  refine cond_intro (by rw [valid_fit h1, valid_ne h1]; rfl) ?_
  refine loop_run (σ := Nat × ShapeD) (fun q => fr_impl_JoinShapes_vg_6 k xs u v [] u.length v.length q.1) (fun q => hp_impl_JoinShapes_vg_6 k xs u v q.2 u.length v.length q.1) (fun q => q.1 ≤ v.length ∧ q.2 = u ++ (v.take q.1).map (putN1 u.length)) (fun q => v.length - q.1) ?_ (0, u) ⟨Nat.zero_le _, by simp⟩
  rintro ⟨i, zs⟩ ⟨hi, hz⟩ Kn hkn
  simp only at hi hz hkn ⊢
  refine Eq.mpr (r_impl_JoinShapes_vg_6 k xs u v zs u.length v.length i Kn K) ?_
  have hl3 : zs.length = u.length + i := by rw [hz, List.length_append, List.length_map, List.length_take]; omega
  by_cases hlt : i < v.length
  · have hx := valid_wf h2 (k := 0) (List.getElem_mem hlt)
    have hstep : zs ++ [putN1 u.length (v[i]'hlt)] = u ++ (v.take (i + 1)).map (putN1 u.length) := by
      rw [hz, take_one hlt, List.map_append, List.append_assoc]; rfl
    have := hkn (i + 1, zs ++ [putN1 u.length (v[i]'hlt)]) ⟨hlt, hstep⟩ (by simp only; omega)
    simp only at this
    simp only [d_lt hlt, d_0, cond_true, Int.toNat_natCast, get_lt hlt, hl3, d_t (show (u.length + i + 1) * 48 ≤ 140737488355328 by omega)]
    generalize v[i]'hlt = x at *
    rw [i64_of (show -9223372036854775808 ≤ (i : Int) + 1 by omega) (by omega), kindC0 hx, kindC1 hx]
    revert this
    unfold putN1
    cases inR x.1 0 4 <;> cases inR x.1 5 8 <;> exact id
  · have : i = v.length := by omega
    subst this
    rw [List.take_length] at hz
    have hw : IntKind.i64.wrap ((u.length : Int) - 1) = (u.length : Int) - 1 := i64_of (by omega) (by omega)
    have hw2 : IntKind.i64.wrap ((zs.length : Int) - 1) = (u.length : Int) + v.length - 1 := by rw [i64_of (by omega) (by omega)]; omega
    simp only [d_nlt hlt, cond_false, hw, hw2]
    refine cond_intro (decide_eq_true (by omega)) ?_
    rw [hz]
    exact h
noncomputable def s_impl_JoinShapes_vg_vv : Sm := semG [.cell tI, .agg tS, .agg tS, .cell (.slice tF)] (fun x => match x with | (k, u, v, xs, _) => decide (xs.length ≤ 1048576)) fun x => tup (vecRs [.agg [.deep tN], .cell (.imm .bool)] (match x with | (k, u, v, xs, _) => ((joinR k u v xs, ()), joinOk k u v xs, ())))
theorem ok_impl_JoinShapes_vg_vv : FnOk Tryz.prog 85 s_impl_JoinShapes_vg_vv := fnOk_of_give ok_impl_JoinShapes_vg.1

/-! impl.UnionOf -/
noncomputable def a_impl_UnionOf_vg : Nat → Option Ann := fun n => bif Nat.beq n 5 then some ⟨[2,4,5,21,22,23],0,true⟩ else none
noncomputable def c_impl_UnionOf_vg : Ctx := mkC Tryz.prog tyT [(64, s_impl_in)] [] [(84, s_impl_told), (85, s_impl_JoinShapes_vg)] 39 a_impl_UnionOf_vg 0 false [] true
noncomputable def gp_impl_UnionOf_vg : List (List (Option Ty)) := List.map giveR [.agg [.deep tN], .cell (.imm .bool)]
noncomputable def fr_impl_UnionOf_vg_5 (vs : List ShapeD) (u : ShapeD) (b : Bool) (n i : Int) : Fr := [(2, .ptr 0 0), (4, .ptr 1 0), (5, .bool b), (21, .vec tS vs), (22, .int .i64 n), (23, .int .i64 i)]
noncomputable def hp_impl_UnionOf_vg_5 (vs : List ShapeD) (u : ShapeD) (b : Bool) (n i : Int) : Heap := [.box [.nils], .box [.dob 2 0], .dp 0 0 tN u]
theorem r_impl_UnionOf_vg_5 (vs : List ShapeD) (u : ShapeD) (b : Bool) (n i : Int) (Kn : Fr → Heap → Prop) (K : V → Heap → Prop) : round c_impl_UnionOf_vg ⟨[2,4,5,21,22,23],0,true⟩ (lb c_impl_UnionOf_vg 5 Tryz.f53) (fr_impl_UnionOf_vg_5 vs u b n i) (hp_impl_UnionOf_vg_5 vs u b n i) Kn (lkG gp_impl_UnionOf_vg c_impl_UnionOf_vg 5 Tryz.f53 [] K) =
  cond (decide (i < n))
    (cond (decide (0 ≤ i))
      ((match vs[Int.toNat i]? with
        | some y0 => cond (!b)
          (K (.tuple [(.agg [(.dob 0 0)]), (.bool false)]) [(.dp 0 0 (.pair (.int .i64) (.pair (.int .i64) (.pair (.int .i64) (.slice (.float .f32))))) ([]))])
          (Kn [(2, (.ptr 0 0)), (4, (.ptr 1 0)), (5, (.bool (joinOk 5 u y0 []))), (21, (.vec (.slice (.pair (.int .i64) (.pair (.int .i64) (.pair (.int .i64) (.slice (.float .f32)))))) (vs))), (22, (.int .i64 (n))), (23, (.int .i64 (IntKind.wrap IntKind.i64 (i + 1))))] [(.box [.nils]), (.box [(.dob 2 0)]), (.dp 0 0 (.pair (.int .i64) (.pair (.int .i64) (.pair (.int .i64) (.slice (.float .f32))))) (joinR 5 u y0 []))])
        | none => False))
      (False))
    (K (.tuple [(.agg [(.dob 0 0)]), (.bool (b))]) [(.dp 0 0 (.pair (.int .i64) (.pair (.int .i64) (.pair (.int .i64) (.slice (.float .f32))))) (u))]) := by kernel_rfl
theorem w_impl_UnionOf_vg (ss : List ShapeD) (K : V → Heap → Prop) : wpFnG gp_impl_UnionOf_vg c_impl_UnionOf_vg Tryz.f53 (encAs [.cell (.slice tS)] (ss, ())) [] K =
  cond (!inR (↑(List.length ss) : Int) 1 16)
    (K (.tuple [(.agg [(.dob 0 0)]), (.bool false)]) [(.dp 0 0 (.pair (.int .i64) (.pair (.int .i64) (.pair (.int .i64) (.slice (.float .f32))))) ([]))])
    ((match ss[0]? with
      | some y0 => cond (decide (0 ≤ 1) && (decide (1 ≤ (↑(List.length ss) : Int)) && decide ((↑(List.length ss) : Int) ≤ (↑(List.length ss) : Int))))
        (LoopE c_impl_UnionOf_vg ⟨[2, 4, 5, 21, 22, 23], 0, true⟩ (lb c_impl_UnionOf_vg 5 Tryz.f53) [(2, (.ptr 0 0)), (4, (.ptr 1 0)), (5, (.bool (validS y0))), (21, (.vec (.slice (.pair (.int .i64) (.pair (.int .i64) (.pair (.int .i64) (.slice (.float .f32)))))) (List.drop 1 (List.take (Int.toNat (↑(List.length ss) : Int)) ss)))), (22, (.int .i64 ((↑(List.length (List.drop 1 (List.take (Int.toNat (↑(List.length ss) : Int)) ss))) : Int)))), (23, (.int .i64 0))] [(.box [.nils]), (.box [(.dob 2 0)]), (.dp 0 0 (.pair (.int .i64) (.pair (.int .i64) (.pair (.int .i64) (.slice (.float .f32))))) (bif validS y0 then y0 else []))] (lkG gp_impl_UnionOf_vg c_impl_UnionOf_vg 5 Tryz.f53 [] K))
        (False)
      | none => False)) := by kernel_rfl
noncomputable def s_impl_UnionOf_vg : Sm := semV [.cell (.slice tS)] [.agg [.deep tN], .cell (.imm .bool)] (fun x => match x with | (ss, _) => true) fun x => match x with | (ss, _) => ((((unionO ss).getD []), ()), (unionO ss).isSome, ())
theorem ok_impl_UnionOf_vg : FnOkL Tryz.prog 53 s_impl_UnionOf_vg := fnOkO_give (fnOkO_runG (C := c_impl_UnionOf_vg) gp_impl_UnionOf_vg rfl mixed (.cons ok_impl_in .nil) .nil (.cons ok_impl_told (.cons ok_impl_JoinShapes_vg .nil)) Tryz.func53 (by kernel_rfl)) rfl fun (x : ((List ShapeD) × Unit)) wf hg K h => by
  obtain ⟨ss, ⟨⟩⟩ := x
  replace h : K (tup (valRs [.agg [.deep tN], .cell (.imm .bool)] (((((unionO ss).getD []), ()), (unionO ss).isSome, ())) 0)) (thRs [.agg [.deep tN], .cell (.imm .bool)] (((((unionO ss).getD []), ()), (unionO ss).isSome, ()))) := h
  rw [w_impl_UnionOf_vg ss K]
  obtain ⟨⟨wl, _⟩, _⟩ := wf
  have wl : ss.length ≤ 9223372036854775807 := wl
  cases hss : ss with
  | nil => subst hss; exact h
  | cons s0 rest =>
  rw [← hss]
  have hl0 : ss.length = rest.length + 1 := by rw [hss]; rfl
  have hU : unionO ss = bif inR (ss.length : Int) 1 16 && validS s0 then unionGo s0 rest else none := by rw [hss]; rfl
  have h0 : ss[0]? = some s0 := by rw [hss]; rfl
  cases hi : inR (ss.length : Int) 1 16 with
  | false =>
    rw [hU, hi] at h
    exact h
  | true =>
  rw [hi, Bool.true_and] at hU
  simp only [h0, Bool.not_true, cond_false]
  refine cond_intro (by simp only [Bool.and_eq_true, decide_eq_true_eq]; omega) ?_
  have hd : List.drop (Int.toNat 1) (List.take (Int.toNat (ss.length : Int)) ss) = rest := by
    rw [Int.toNat_natCast, List.take_length, hss]; rfl
  simp only [Int.toNat_natCast, List.take_length, show ss.drop 1 = rest by rw [hss]; rfl]
  refine loop_run (σ := Nat × ShapeD × Bool) (fun q => fr_impl_UnionOf_vg_5 rest q.2.1 q.2.2 rest.length q.1) (fun q => hp_impl_UnionOf_vg_5 rest q.2.1 q.2.2 rest.length q.1) (fun q => q.1 ≤ rest.length ∧ (q.2.2 = true → unionGo q.2.1 (rest.drop q.1) = unionO ss) ∧ (q.2.2 = false → q.2.1 = [] ∧ unionO ss = none)) (fun q => rest.length - q.1) ?_ (0, (bif validS s0 then s0 else []), validS s0) ⟨Nat.zero_le _, fun e => ?_, fun e => ?_⟩
  rotate_left
  · simp only at e ⊢
    rw [hU, e]
    rfl
  · simp only at e ⊢
    rw [hU, e]
    exact ⟨rfl, rfl⟩
  rintro ⟨i, u, b⟩ ⟨hi, hb1, hb2⟩ Kn hk
  simp only at hi hb1 hb2 hk ⊢
  rw [r_impl_UnionOf_vg_5 rest u b rest.length i Kn K]
  by_cases hlt : i < rest.length
  · rw [List.drop_eq_getElem_cons hlt] at hb1
    simp only [unionGo] at hb1
    simp only [d_lt hlt, d_0, cond_true, Int.toNat_natCast, get_lt hlt]
    generalize rest[i]'hlt = v at *
    cases b with
    | false =>
      rw [(hb2 rfl).2] at h
      exact h
    | true =>
      have hz := hb1 rfl
      simp only [Bool.not_true, cond_false]
      rw [i64_of (show -9223372036854775808 ≤ (i : Int) + 1 by omega) (by omega)]
      refine hk (i + 1, joinR 5 u v [], joinOk 5 u v []) ⟨hlt, fun e => ?_, fun e => ?_⟩ (by simp only; omega)
      · simp only at e ⊢
        unfold joinR
        rw [e, cond_true] at hz ⊢
        exact hz
      · simp only at e ⊢
        unfold joinR
        rw [e, cond_false] at hz ⊢
        exact ⟨rfl, hz.symm⟩
  · have : i = rest.length := by omega
    subst this
    simp only [d_nlt hlt, cond_false]
    cases b with
    | false =>
      obtain ⟨e1, e2⟩ := hb2 rfl
      subst e1
      rw [e2] at h
      exact h
    | true =>
      have hz := hb1 rfl
      rw [List.drop_of_length_le (Nat.le_refl _)] at hz
      simp only [unionGo] at hz
      rw [← hz] at h
      exact h
noncomputable def s_impl_UnionOf_vg_vv : Sm := semG [.cell (.slice tS)] (fun x => match x with | (ss, _) => true) fun x => tup (vecRs [.agg [.deep tN], .cell (.imm .bool)] (match x with | (ss, _) => ((((unionO ss).getD []), ()), (unionO ss).isSome, ())))
theorem ok_impl_UnionOf_vg_vv : FnOk Tryz.prog 53 s_impl_UnionOf_vg_vv := fnOk_of_give ok_impl_UnionOf_vg.1

/-! impl.coordinates -/
noncomputable def c_impl_coordinates : Ctx := mkC Tryz.prog tyT [] [] [] 10 (fun _ => none) 0
theorem w_impl_coordinates (p : V3) (K : V → Heap → Prop) : wpFn c_impl_coordinates Tryz.f50 (encAs [.agg tV] (p, ())) [] K =
  K (.agg [(.float .f32 (Prod.fst p)), (.float .f32 (Prod.fst (Prod.snd p))), (.float .f32 (Prod.snd (Prod.snd p)))]) [] := by kernel_rfl
noncomputable def s_impl_coordinates : Sm := semT [.agg tV] fun x => match x with | (p, _) => .agg [.float .f32 p.1, .float .f32 p.2.1, .float .f32 p.2.2]
theorem ok_impl_coordinates : FnOk Tryz.prog 50 s_impl_coordinates := fnOk_typed (fnOk_runC (C := c_impl_coordinates) rfl mixed .nil .nil .nil Tryz.func50 (by kernel_rfl)) fun (x : ((V3) × Unit)) wf K h => by
  obtain ⟨p, ⟨⟩⟩ := x
  replace h : K (.agg [.float .f32 p.1, .float .f32 p.2.1, .float .f32 p.2.2]) [] := h
  rw [w_impl_coordinates p K]
  exact h

/-! impl.ShapeAt -/
noncomputable def a_impl_ShapeAt_vg : Nat → Option Ann := fun n => bif Nat.beq n 5 then some ⟨[1,4,6,29,30,31],3,false⟩ else none
noncomputable def c_impl_ShapeAt_vg : Ctx := mkC Tryz.prog tyT [(34, s_impl_ValidScene), (49, s_impl_timeOk), (51, s_impl_placeAt), (50, s_impl_coordinates)] [] [(52, s_impl_WrapShape_vg), (53, s_impl_UnionOf_vg)] 58 a_impl_ShapeAt_vg 0 false [] true true
noncomputable def gp_impl_ShapeAt_vg : List (List (Option Ty)) := List.map giveR [.agg [.deep tN], .cell (.imm .bool)]
noncomputable def fr_impl_ShapeAt_vg_5 (ts : List ThingD) (t : Int) (out : List ShapeD) (n i : Int) : Fr := [(1, .int .i64 t), (4, .ptr 1 0), (6, .dob 2 0), (29, .vec tT ts), (30, .int .i64 n), (31, .int .i64 i)]
noncomputable def hp_impl_ShapeAt_vg_5 (ts : List ThingD) (t : Int) (out : List ShapeD) (n i : Int) : Heap := [.box [.vec tT ts], .box [.nils], .dp 0 0 tS out]
theorem r_impl_ShapeAt_vg_5 (ts : List ThingD) (t : Int) (out : List ShapeD) (n i : Int) (Kn : Fr → Heap → Prop) (K : V → Heap → Prop) : round c_impl_ShapeAt_vg ⟨[1,4,6,29,30,31],3,false⟩ (lb c_impl_ShapeAt_vg 5 Tryz.f20) (fr_impl_ShapeAt_vg_5 ts t out n i) (hp_impl_ShapeAt_vg_5 ts t out n i) Kn (lkG gp_impl_ShapeAt_vg c_impl_ShapeAt_vg 5 Tryz.f20 [] K) =
  cond (decide (i < n))
    (cond (decide (0 ≤ i))
      ((match ts[Int.toNat i]? with
        | some y0 => cond (decide (1 ≤ List.length (Prod.snd (Prod.snd y0))) && decide (List.length (Prod.snd (Prod.snd y0)) ≤ 8))
          (cond (!wrapOk 9 (Prod.fst (Prod.snd y0)) 0 [Prod.fst (placeV (Prod.snd (Prod.snd y0)) t), Prod.fst (Prod.snd (placeV (Prod.snd (Prod.snd y0)) t)), Prod.snd (Prod.snd (placeV (Prod.snd (Prod.snd y0)) t))])
            (K (.tuple [(.agg [(.dob 0 0)]), (.bool false)]) [(.dp 0 0 (.pair (.int .i64) (.pair (.int .i64) (.pair (.int .i64) (.slice (.float .f32))))) ([]))])
            (cond (decide ((List.length out + 1) * 24 ≤ 140737488355328))
              (Kn [(1, (.int .i64 (t))), (4, (.ptr 1 0)), (6, (.dob 2 0)), (29, (.vec (.pair .str (.pair (.slice (.pair (.int .i64) (.pair (.int .i64) (.pair (.int .i64) (.slice (.float .f32)))))) (.slice (.pair (.int .i64) (.pair (.float .f32) (.pair (.float .f32) (.float .f32))))))) (ts))), (30, (.int .i64 (n))), (31, (.int .i64 (IntKind.wrap IntKind.i64 (i + 1))))] [(.box [(.vec (.pair .str (.pair (.slice (.pair (.int .i64) (.pair (.int .i64) (.pair (.int .i64) (.slice (.float .f32)))))) (.slice (.pair (.int .i64) (.pair (.float .f32) (.pair (.float .f32) (.float .f32))))))) (ts))]), (.box [.nils]), (.dp 0 0 (.slice (.pair (.int .i64) (.pair (.int .i64) (.pair (.int .i64) (.slice (.float .f32)))))) (out ++ [wrapR 9 (Prod.fst (Prod.snd y0)) 0 [Prod.fst (placeV (Prod.snd (Prod.snd y0)) t), Prod.fst (Prod.snd (placeV (Prod.snd (Prod.snd y0)) t)), Prod.snd (Prod.snd (placeV (Prod.snd (Prod.snd y0)) t))]]))])
              (False)))
          (False)
        | none => False))
      (False))
    (K (.tuple [(.agg [(.dob 0 0)]), (.bool (Option.isSome (unionO out)))]) [(.dp 0 0 (.pair (.int .i64) (.pair (.int .i64) (.pair (.int .i64) (.slice (.float .f32))))) (Option.getD (unionO out) []))]) := by kernel_rfl
theorem w_impl_ShapeAt_vg (ts : List ThingD) (t : Int) (K : V → Heap → Prop) : wpFnG gp_impl_ShapeAt_vg c_impl_ShapeAt_vg Tryz.f20 (encAs [.agg (.slice tT), .cell tI] (ts, t, ())) [] K =
  cond (!sceneB ts)
    (K (.tuple [(.agg [(.dob 0 0)]), (.bool false)]) [(.dp 0 0 (.pair (.int .i64) (.pair (.int .i64) (.pair (.int .i64) (.slice (.float .f32))))) ([]))])
    (cond (!inR t 0 10000)
      (K (.tuple [(.agg [(.dob 0 0)]), (.bool false)]) [(.dp 0 0 (.pair (.int .i64) (.pair (.int .i64) (.pair (.int .i64) (.slice (.float .f32))))) ([]))])
      (cond ((↑(List.length ts) : Int) == 0)
        (K (.tuple [(.agg [(.dob 0 0)]), (.bool false)]) [(.dp 0 0 (.pair (.int .i64) (.pair (.int .i64) (.pair (.int .i64) (.slice (.float .f32))))) ([]))])
        (LoopE c_impl_ShapeAt_vg ⟨[1, 4, 6, 29, 30, 31], 3, false⟩ (lb c_impl_ShapeAt_vg 5 Tryz.f20) [(1, (.int .i64 (t))), (4, (.ptr 1 0)), (6, (.dob 2 0)), (29, (.vec (.pair .str (.pair (.slice (.pair (.int .i64) (.pair (.int .i64) (.pair (.int .i64) (.slice (.float .f32)))))) (.slice (.pair (.int .i64) (.pair (.float .f32) (.pair (.float .f32) (.float .f32))))))) (ts))), (30, (.int .i64 ((↑(List.length ts) : Int)))), (31, (.int .i64 0))] [(.box [(.vec (.pair .str (.pair (.slice (.pair (.int .i64) (.pair (.int .i64) (.pair (.int .i64) (.slice (.float .f32)))))) (.slice (.pair (.int .i64) (.pair (.float .f32) (.pair (.float .f32) (.float .f32))))))) (ts))]), (.box [.nils]), (.dp 0 0 (.slice (.pair (.int .i64) (.pair (.int .i64) (.pair (.int .i64) (.slice (.float .f32)))))) ([]))] (lkG gp_impl_ShapeAt_vg c_impl_ShapeAt_vg 5 Tryz.f20 [] K)))) := by kernel_rfl
noncomputable def s_impl_ShapeAt_vg : Sm := semV [.agg (.slice tT), .cell tI] [.agg [.deep tN], .cell (.imm .bool)] (fun x => match x with | (ts, t, _) => true) fun x => match x with | (ts, t, _) => ((((atO ts t).getD []), ()), (atO ts t).isSome, ())
theorem ok_impl_ShapeAt_vg : FnOkL Tryz.prog 20 s_impl_ShapeAt_vg := fnOkO_give (fnOkO_runG (C := c_impl_ShapeAt_vg) gp_impl_ShapeAt_vg rfl mixed (.cons ok_impl_ValidScene (.cons ok_impl_timeOk (.cons ok_impl_placeAt (.cons ok_impl_coordinates .nil)))) .nil (.cons ok_impl_WrapShape_vg (.cons ok_impl_UnionOf_vg .nil)) Tryz.func20 (by kernel_rfl)) rfl fun (x : ((List ThingD) × (Int) × Unit)) wf hg K h => by
  obtain ⟨ts, t, ⟨⟩⟩ := x
  replace h : K (tup (valRs [.agg [.deep tN], .cell (.imm .bool)] (((((atO ts t).getD []), ()), (atO ts t).isSome, ())) 0)) (thRs [.agg [.deep tN], .cell (.imm .bool)] (((((atO ts t).getD []), ()), (atO ts t).isSome, ()))) := h
  rw [w_impl_ShapeAt_vg ts t K]
  unfold atO at h
  cases h1 : sceneB ts with
  | false => simp only [h1, Bool.false_and, cond_false, Bool.not_false, cond_true] at h ⊢; exact h
  | true =>
  cases h2 : inR t 0 10000 with
  | false => simp only [h1, h2, Bool.and_false, cond_false, Bool.not_true, Bool.not_false, cond_true] at h ⊢; exact h
  | true =>
  simp only [h1, h2, Bool.and_self, cond_true, Bool.not_true, cond_false] at h ⊢
  have hl8 := sceneB_len h1
  by_cases h0 : ts.length = 0
  · have : ts = [] := List.eq_nil_of_length_eq_zero h0
    subst this
    exact h
  rw [show (((ts.length : Nat) : Int) == 0) = false from beq_eq_false_iff_ne.2 (by omega), cond_false]
  refine loop_run (σ := Nat × List ShapeD) (fun q => fr_impl_ShapeAt_vg_5 ts t q.2 ts.length q.1) (fun q => hp_impl_ShapeAt_vg_5 ts t q.2 ts.length q.1) (fun q => q.1 ≤ ts.length ∧ q.2.length = q.1 ∧ atGo t q.2 (ts.drop q.1) = atGo t [] ts) (fun q => ts.length - q.1) ?_ (0, []) ⟨Nat.zero_le _, rfl, rfl⟩
  rintro ⟨i, out⟩ ⟨hi, hl, hz⟩ Kn hk
  simp only at hi hl hz hk ⊢
  rw [r_impl_ShapeAt_vg_5 ts t out ts.length i Kn K]
  by_cases hlt : i < ts.length
  · have ht := sceneB_at h1 hlt
    have hk8 := thingB_keys' ht
    rw [List.drop_eq_getElem_cons hlt] at hz
    simp only [atGo] at hz
    simp only [d_lt hlt, d_0, cond_true, Int.toNat_natCast, get_lt hlt]
    generalize ts[i]'hlt = th at *
    simp only [d_t hk8.1, d_t hk8.2, Bool.and_self, cond_true]
    rw [show [(placeV th.2.2 t).1, (placeV th.2.2 t).2.1, (placeV th.2.2 t).2.2] = mvL th.2.2 t from rfl]
    cases hw : wrapOk 9 th.2.1 0 (mvL th.2.2 t) with
    | false =>
      rw [hw, cond_false] at hz
      rw [← hz] at h
      exact h
    | true =>
      rw [hw, cond_true] at hz
      have hR : wrapR 9 th.2.1 0 (mvL th.2.2 t) = wrapS 9 th.2.1 0 (mvL th.2.2 t) := by unfold wrapR; rw [hw]; rfl
      simp only [Bool.not_true, cond_false, hR, d_t (show (out.length + 1) * 24 ≤ 140737488355328 by omega), cond_true]
      rw [i64_of (show -9223372036854775808 ≤ (i : Int) + 1 by omega) (by omega)]
      exact hk (i + 1, out ++ [wrapS 9 th.2.1 0 (mvL th.2.2 t)]) ⟨hlt, by simp only [List.length_append, List.length_cons, List.length_nil]; omega, hz⟩ (by simp only; omega)
  · have : i = ts.length := by omega
    subst this
    simp only [d_nlt hlt, cond_false]
    rw [List.drop_of_length_le (Nat.le_refl _)] at hz
    simp only [atGo] at hz
    rw [← hz] at h
    exact h
noncomputable def s_impl_ShapeAt_vg_vv : Sm := semG [.agg (.slice tT), .cell tI] (fun x => match x with | (ts, t, _) => true) fun x => tup (vecRs [.agg [.deep tN], .cell (.imm .bool)] (match x with | (ts, t, _) => ((((atO ts t).getD []), ()), (atO ts t).isSome, ())))
theorem ok_impl_ShapeAt_vg_vv : FnOk Tryz.prog 20 s_impl_ShapeAt_vg_vv := fnOk_of_give ok_impl_ShapeAt_vg.1

end Go.Proofs.YtbalmdjicdeeiaaGreat
