/- Shapes and things that are copied. -/
import Derived.Test.YtmkomfhnomnbiaaDeepT
set_option linter.unusedVariables false
set_option linter.unusedSimpArgs false
set_option maxRecDepth 100000
namespace Go.Proofs.Ytmkomfhnomnbiaa
open Go.Ev

--B putN1 Int → NodeD → NodeD
def putN1 (d : Int) (x : NodeD) : NodeD := (x.1, (bif !inR x.1 0 4 then IntKind.i64.wrap (x.2.1 + d) else x.2.1), (bif inR x.1 5 8 then IntKind.i64.wrap (x.2.2.1 + d) else x.2.2.1), x.2.2.2)

theorem fitS_len {s : ShapeD} (h : fitS s = true) : s.length ≤ 1048576 := by
  unfold fitS at h
  simp only [Bool.and_eq_true, decide_eq_true_eq] at h
  exact h.1
theorem fitS_at {s : ShapeD} (h : fitS s = true) {i : Nat} (hi : i < s.length) : (s[i]'hi).2.2.2.length ≤ 1048576 := by
  unfold fitS at h
  simp only [Bool.and_eq_true] at h
  have := List.all_eq_true.1 h.2 _ (List.getElem_mem hi)
  unfold fitN at this
  simpa using this
theorem putN1_id {x : NodeD} (h : Wf tN x) : putN1 0 x = x := by
  obtain ⟨_, ⟨h1, h2⟩, ⟨h3, h4⟩, _⟩ := h
  unfold putN1
  rw [Int.add_zero, Int.add_zero, wrap_of h1 h2, wrap_of h3 h4]
  cases inR x.1 0 4 <;> cases inR x.1 5 8 <;> rfl
theorem putN1_map {s : ShapeD} (h : ∀ x ∈ s, Wf tN x) : s.map (putN1 0) = s := by
  conv => rhs; rw [← List.map_id s]
  exact List.map_congr_left fun x hx => putN1_id (h x hx)

/-! spec.l02Put -/
noncomputable def a_spec_l02Put : Nat → Option Ann := fun n => bif Nat.beq n 2 then some ⟨[0,1,2,7],1,false⟩ else none
noncomputable def c_spec_l02Put : Ctx := mkC Try.prog tyT [(80, s_spec_l02Leaf), (81, s_spec_l02Two)] [] [] 52 a_spec_l02Put 0 false [] true
noncomputable def gp_spec_l02Put : List (List (Option Ty)) := List.map giveR [.cell (.deep tN)]
noncomputable def fr_spec_l02Put_2 (ls s : ShapeD) (d i : Int) : Fr := [(0, .dob 0 0), (1, .ref [.vec tN s] 0), (2, .int .i64 d), (7, .int .i64 i)]
noncomputable def hp_spec_l02Put_2 (ls s : ShapeD) (d i : Int) : Heap := [.dp 0 0 tN ls]
theorem r_spec_l02Put_2 (ls s : ShapeD) (d i : Int) (Kn : Fr → Heap → Prop) (K : V → Heap → Prop) : round c_spec_l02Put ⟨[0,1,2,7],1,false⟩ (lb c_spec_l02Put 2 Try.f73) (fr_spec_l02Put_2 ls s d i) (hp_spec_l02Put_2 ls s d i) Kn (lkG gp_spec_l02Put c_spec_l02Put 2 Try.f73 [] K) =
  cond (decide (i < (↑(List.length s) : Int)))
    (cond (decide (0 ≤ i))
      ((match s[Int.toNat i]? with
        | some y0 => cond (decide ((0 + List.length (Prod.snd (Prod.snd (Prod.snd y0)))) * 4 ≤ 140737488355328))
          (cond (!inR (Prod.fst y0) 0 4)
            (cond (inR (Prod.fst y0) 5 8)
              (cond (decide ((List.length ls + 1) * 48 ≤ 140737488355328))
                (Kn [(0, (.dob 0 0)), (1, (.ref [(.vec tN (s))] 0)), (2, (.int .i64 (d))), (7, (.int .i64 (IntKind.wrap IntKind.i64 (i + 1))))] [(.dp 0 0 tN (ls ++ [(Prod.fst y0, IntKind.wrap IntKind.i64 (Prod.fst (Prod.snd y0) + d), IntKind.wrap IntKind.i64 (Prod.fst (Prod.snd (Prod.snd y0)) + d), [] ++ Prod.snd (Prod.snd (Prod.snd y0)))]))])
                (False))
              (cond (decide ((List.length ls + 1) * 48 ≤ 140737488355328))
                (Kn [(0, (.dob 0 0)), (1, (.ref [(.vec tN (s))] 0)), (2, (.int .i64 (d))), (7, (.int .i64 (IntKind.wrap IntKind.i64 (i + 1))))] [(.dp 0 0 tN (ls ++ [(Prod.fst y0, IntKind.wrap IntKind.i64 (Prod.fst (Prod.snd y0) + d), Prod.fst (Prod.snd (Prod.snd y0)), [] ++ Prod.snd (Prod.snd (Prod.snd y0)))]))])
                (False)))
            (cond (inR (Prod.fst y0) 5 8)
              (cond (decide ((List.length ls + 1) * 48 ≤ 140737488355328))
                (Kn [(0, (.dob 0 0)), (1, (.ref [(.vec tN (s))] 0)), (2, (.int .i64 (d))), (7, (.int .i64 (IntKind.wrap IntKind.i64 (i + 1))))] [(.dp 0 0 tN (ls ++ [(Prod.fst y0, Prod.fst (Prod.snd y0), IntKind.wrap IntKind.i64 (Prod.fst (Prod.snd (Prod.snd y0)) + d), [] ++ Prod.snd (Prod.snd (Prod.snd y0)))]))])
                (False))
              (cond (decide ((List.length ls + 1) * 48 ≤ 140737488355328))
                (Kn [(0, (.dob 0 0)), (1, (.ref [(.vec tN (s))] 0)), (2, (.int .i64 (d))), (7, (.int .i64 (IntKind.wrap IntKind.i64 (i + 1))))] [(.dp 0 0 tN (ls ++ [(Prod.fst y0, Prod.fst (Prod.snd y0), Prod.fst (Prod.snd (Prod.snd y0)), [] ++ Prod.snd (Prod.snd (Prod.snd y0)))]))])
                (False))))
          (False)
        | none => False))
      (False))
    (K (.dob 0 0) [(.dp 0 0 tN (ls))]) := by kernel_rfl
theorem w_spec_l02Put (ls : ShapeD) (s : ShapeD) (d : Int) (K : V → Heap → Prop) : wpFnT gp_spec_l02Put c_spec_l02Put Try.f73 (ofCells false (encP [.deep tN] (ls, ()) 0) :: encAs [.ref tS, .cell tI] (s, d, ())) (thP [.deep tN] (ls, ())) K =
  LoopE c_spec_l02Put ⟨[0, 1, 2, 7], 1, false⟩ (lb c_spec_l02Put 2 Try.f73) [(0, (.dob 0 0)), (1, (.ref [(.vec tN (s))] 0)), (2, (.int .i64 (d))), (7, (.int .i64 0))] [(.dp 0 0 tN (ls))] (lkG gp_spec_l02Put c_spec_l02Put 2 Try.f73 [] K) := by kernel_rfl
noncomputable def s_spec_l02Put : Sm := semK false [.deep tN] [.ref tS, .cell tI] [.cell (.deep tN)] (fun y x => match y, x with | (ls, _), (s, d, _) => fitS s && decide (ls.length ≤ 1048576)) fun y x => match y, x with | (ls, _), (s, d, _) => (ls ++ s.map (putN1 d), ())
theorem ok_spec_l02Put : FnOkL Try.prog 73 s_spec_l02Put := fnOkO_take (fnTk_run (C := c_spec_l02Put) gp_spec_l02Put rfl mixed (.cons ok_spec_l02Leaf (.cons ok_spec_l02Two .nil)) .nil .nil Try.func73 (by kernel_rfl)) (by first | exact .inl rfl | exact .inr (.inl ⟨_, rfl⟩) | exact .inr (.inr ⟨_, rfl⟩)) rfl fun (y : ((ShapeD) × Unit)) (x : ((ShapeD) × (Int) × Unit)) wf hg K h => by
  obtain ⟨s, d, ⟨⟩⟩ := x
  obtain ⟨ls, ⟨⟩⟩ := y
  replace hg : (fitS s && decide (ls.length ≤ 1048576)) = true := hg
  replace h : K (tup (valRs [.cell (.deep tN)] ((ls ++ s.map (putN1 d), ())) 0)) (thRs [.cell (.deep tN)] ((ls ++ s.map (putN1 d), ()))) := h
  rw [w_spec_l02Put ls s d K]
  simp only [Bool.and_eq_true, decide_eq_true_eq] at hg
  obtain ⟨g1, g2⟩ := hg
  have g3 := fitS_len g1
  refine loop_run (σ := Nat × ShapeD) (fun q => fr_spec_l02Put_2 q.2 s d q.1) (fun q => hp_spec_l02Put_2 q.2 s d q.1) (fun q => q.1 ≤ s.length ∧ q.2 = ls ++ (s.take q.1).map (putN1 d)) (fun q => s.length - q.1) ?_ (0, ls) ⟨Nat.zero_le _, by simp⟩
  rintro ⟨i, zs⟩ ⟨hi, hz⟩ Kn hk
  simp only at hi hz hk ⊢
  rw [r_spec_l02Put_2 zs s d i Kn K]
  by_cases hlt : i < s.length
  · have hf := fitS_at g1 hlt
    have hl : zs.length = ls.length + i := by rw [hz, List.length_append, List.length_map, List.length_take]; omega
    have hstep : zs ++ [putN1 d (s[i]'hlt)] = ls ++ (s.take (i + 1)).map (putN1 d) := by
      rw [hz, take_one hlt, List.map_append, List.append_assoc]; rfl
    simp only [d_lt hlt, d_0, cond_true, Int.toNat_natCast, get_lt hlt, hl]
    generalize s[i]'hlt = x at *
    simp only [d_t (show (0 + x.2.2.2.length) * 4 ≤ 140737488355328 by omega), d_t (show (ls.length + i + 1) * 48 ≤ 140737488355328 by omega), cond_true]
    rw [i64_of (show -9223372036854775808 ≤ (i : Int) + 1 by omega) (by omega)]
    have := hk (i + 1, zs ++ [putN1 d x]) ⟨hlt, hstep⟩ (by simp only; omega)
    simp only at this
    revert this
    unfold putN1
    cases inR x.1 0 4 <;> cases inR x.1 5 8 <;> exact id
  · have : i = s.length := by omega
    subst this
    simp only [d_nlt hlt, cond_false]
    rw [List.take_length] at hz
    rw [hz]
    exact h

/-! spec.l02Own -/
noncomputable def c_spec_l02Own : Ctx := mkC Try.prog tyT [] [] [(73, s_spec_l02Put)] 7 (fun _ => none) 0 false [] true
noncomputable def gp_spec_l02Own : List (List (Option Ty)) := List.map giveR [.agg [.deep tN]]
theorem w_spec_l02Own (s : ShapeD) (K : V → Heap → Prop) : wpFnG gp_spec_l02Own c_spec_l02Own Try.f59 (encAs [.ref tS] (s, ())) [] K =
  cond (fitS s && decide (0 ≤ 1048576))
    (K (.agg [(.dob 0 0)]) [(.dp 0 0 tN ([] ++ List.map (putN1 0) s))])
    (False) := by kernel_rfl
noncomputable def s_spec_l02Own : Sm := semV [.ref tS] [.agg [.deep tN]] (fun x => match x with | (s, _) => fitS s) fun x => match x with | (s, _) => ((s, ()), ())
theorem ok_spec_l02Own : FnOkL Try.prog 59 s_spec_l02Own := fnOkO_give (fnOkO_runG (C := c_spec_l02Own) gp_spec_l02Own rfl mixed .nil .nil (.cons ok_spec_l02Put .nil) Try.func59 (by kernel_rfl)) rfl fun (x : ((ShapeD) × Unit)) wf hg K h => by
  obtain ⟨s, ⟨⟩⟩ := x
  replace hg : (fitS s) = true := hg
  replace h : K (tup (valRs [.agg [.deep tN]] (((s, ()), ())) 0)) (thRs [.agg [.deep tN]] (((s, ()), ()))) := h
  rw [w_spec_l02Own s K]
  rw [hg, putN1_map wf.1.2] at *
  exact h

/-! spec.l10Own -/
noncomputable def c_spec_l10Own : Ctx := mkC Try.prog tyT [] [] [(59, s_spec_l02Own)] 18 (fun _ => none) 0 false [] true
noncomputable def gp_spec_l10Own : List (List (Option Ty)) := List.map giveR [.agg [.imm .str, .deep tN, .own tK]]
theorem w_spec_l10Own (s : Str) (ns : ShapeD) (ks : List KeyD) (K : V → Heap → Prop) : wpFnG gp_spec_l10Own c_spec_l10Own Try.f41 (encAs [.ref tT] ((s, ns, ks), ())) [] K =
  cond (fitS ns)
    (cond (Nat.blt 0 (List.length ks) && decide ((0 + List.length ks) * 24 ≤ 140737488355328))
      (K (.agg [(.str (s)), (.dob 0 0), (.obj 1 0)]) [(.dp 0 0 tN (ns)), (.sl 0 tK (ks))])
      (False))
    (False) := by kernel_rfl
noncomputable def s_spec_l10Own : Sm := semV [.ref tT] [.agg [.imm .str, .deep tN, .own tK]] (fun x => match x with | ((s, ns, ks), _) => fitT (s, ns, ks) && !ks.isEmpty) fun x => match x with | ((s, ns, ks), _) => ((s, ns, ks, ()), ())
theorem ok_spec_l10Own : FnOkL Try.prog 41 s_spec_l10Own := fnOkO_give (fnOkO_runG (C := c_spec_l10Own) gp_spec_l10Own rfl mixed .nil .nil (.cons ok_spec_l02Own .nil) Try.func41 (by kernel_rfl)) rfl fun (x : (((Str) × (ShapeD) × (List KeyD)) × Unit)) wf hg K h => by
  obtain ⟨⟨s, ns, ks⟩, ⟨⟩⟩ := x
  replace hg : (fitT (s, ns, ks) && !ks.isEmpty) = true := hg
  replace h : K (tup (valRs [.agg [.imm .str, .deep tN, .own tK]] (((s, ns, ks, ()), ())) 0)) (thRs [.agg [.imm .str, .deep tN, .own tK]] (((s, ns, ks, ()), ()))) := h
  rw [w_spec_l10Own s ns ks K]
  unfold fitT at hg
  simp only [Bool.and_eq_true, decide_eq_true_eq] at hg
  obtain ⟨⟨g1, g2⟩, g3⟩ := hg
  have g4 : 0 < ks.length := by cases ks with | nil => cases g3 | cons _ _ => simp
  rw [g1, show (Nat.blt 0 ks.length && decide ((0 + ks.length) * 24 ≤ 140737488355328)) = true by rw [blt_t g4, Bool.true_and]; exact decide_eq_true (by omega)]
  exact h

noncomputable def gp_slices_Clone__float32 : List (List (Option Ty)) := List.map giveR [.cell (.own (tF))]
noncomputable def c_slices_Clone__float32 : Ctx := mkC Try.prog tyT [] [] [] 8 (fun _ => none) 0
theorem w_slices_Clone__float32 (x : (tF).den) (xs : List (tF).den) (K : V → Heap → Prop) : wpFnG gp_slices_Clone__float32 c_slices_Clone__float32 Try.f78 [.vec (tF) (x :: xs)] [] K =
  cond (decide ((0 + List.length (x :: xs)) * 4 ≤ 140737488355328))
    (K (.obj 0 0) [(.sl 0 (.float .f32) ([] ++ x :: xs))])
    (False) := by kernel_rfl
theorem w2_slices_Clone__float32 (b : Bool) (K : V → Heap → Prop) : wpFnG gp_slices_Clone__float32 c_slices_Clone__float32 Try.f78 [.empty b false] [] K =
  cond (b)
    (K (.obj 0 0) [(.sl 0 (.float .f32) ([]))])
    (K (.obj 0 0) [(.sl 0 (.float .f32) ([] ++ []))]) := by kernel_rfl
noncomputable def s_slices_Clone__float32 : Sm := semV [.cell (.slice (tF))] [.cell (.own (tF))] (fun x => decide (x.1.length ≤ 1048576)) fun x => (x.1, ())
theorem ok_slices_Clone__float32 : FnOkL Try.prog 78 s_slices_Clone__float32 := fnOkO_clone (fnOkO_runG (C := c_slices_Clone__float32) gp_slices_Clone__float32 rfl mixed .nil .nil .nil Try.func78 (by kernel_rfl)) 1048576
  (fun x xs K hl h => by
    rw [w_slices_Clone__float32 x xs K, d_t (by rw [List.length_cons]; omega)]
    exact h)
  (fun b K h => by
    rw [w2_slices_Clone__float32 b K]
    cases b <;> exact h)
noncomputable def gp_slices_Clone__implKey : List (List (Option Ty)) := List.map giveR [.cell (.own (tK))]
noncomputable def c_slices_Clone__implKey : Ctx := mkC Try.prog tyT [] [] [] 8 (fun _ => none) 0
theorem w_slices_Clone__implKey (x : (tK).den) (xs : List (tK).den) (K : V → Heap → Prop) : wpFnG gp_slices_Clone__implKey c_slices_Clone__implKey Try.f53 [.vec (tK) (x :: xs)] [] K =
  cond (decide ((0 + List.length (x :: xs)) * 24 ≤ 140737488355328))
    (K (.obj 0 0) [(.sl 0 tK ([] ++ x :: xs))])
    (False) := by kernel_rfl
theorem w2_slices_Clone__implKey (b : Bool) (K : V → Heap → Prop) : wpFnG gp_slices_Clone__implKey c_slices_Clone__implKey Try.f53 [.empty b false] [] K =
  cond (b)
    (K (.obj 0 0) [(.sl 0 tK ([]))])
    (K (.obj 0 0) [(.sl 0 tK ([] ++ []))]) := by kernel_rfl
noncomputable def s_slices_Clone__implKey : Sm := semV [.cell (.slice (tK))] [.cell (.own (tK))] (fun x => decide (x.1.length ≤ 1048576)) fun x => (x.1, ())
theorem ok_slices_Clone__implKey : FnOkL Try.prog 53 s_slices_Clone__implKey := fnOkO_clone (fnOkO_runG (C := c_slices_Clone__implKey) gp_slices_Clone__implKey rfl mixed .nil .nil .nil Try.func53 (by kernel_rfl)) 1048576
  (fun x xs K hl h => by
    rw [w_slices_Clone__implKey x xs K, d_t (by rw [List.length_cons]; omega)]
    exact h)
  (fun b K h => by
    rw [w2_slices_Clone__implKey b K]
    cases b <;> exact h)

/-! impl.cloneNode -/
noncomputable def c_impl_cloneNode : Ctx := mkC Try.prog tyT [] [] [(78, s_slices_Clone__float32)] 8 (fun _ => none) 0 false [] true
noncomputable def gp_impl_cloneNode : List (List (Option Ty)) := List.map giveR [.agg [.imm tI, .imm tI, .imm tI, .own tF]]
theorem w_impl_cloneNode (k a b : Int) (xs : List Nat) (K : V → Heap → Prop) : wpFnG gp_impl_cloneNode c_impl_cloneNode Try.f68 (encAs [.agg tN] ((k, a, b, xs), ())) [] K =
  cond (decide (List.length xs ≤ 1048576))
    (K (.agg [(.int .i64 (k)), (.int .i64 (a)), (.int .i64 (b)), (.obj 0 0)]) [(.sl 0 (.float .f32) (xs))])
    (False) := by kernel_rfl
noncomputable def s_impl_cloneNode : Sm := semV [.agg tN] [.agg [.imm tI, .imm tI, .imm tI, .own tF]] (fun x => match x with | ((k, a, b, xs), _) => decide (xs.length ≤ 1048576)) fun x => match x with | ((k, a, b, xs), _) => ((k, a, b, xs, ()), ())
theorem ok_impl_cloneNode : FnOkL Try.prog 68 s_impl_cloneNode := fnOkO_give (fnOkO_runG (C := c_impl_cloneNode) gp_impl_cloneNode rfl mixed .nil .nil (.cons ok_slices_Clone__float32 .nil) Try.func68 (by kernel_rfl)) rfl fun (x : (((Int) × (Int) × (Int) × (List Nat)) × Unit)) wf hg K h => by
  obtain ⟨⟨k, a, b, xs⟩, ⟨⟩⟩ := x
  replace hg : (decide (xs.length ≤ 1048576)) = true := hg
  replace h : K (tup (valRs [.agg [.imm tI, .imm tI, .imm tI, .own tF]] (((k, a, b, xs, ()), ())) 0)) (thRs [.agg [.imm tI, .imm tI, .imm tI, .own tF]] (((k, a, b, xs, ()), ()))) := h
  rw [w_impl_cloneNode k a b xs K]
  rw [hg]; exact h

/-! impl.cloneShape -/
noncomputable def a_impl_cloneShape : Nat → Option Ann := fun n => bif Nat.beq n 3 then some ⟨[2,3,8,9,10],3,true⟩ else none
noncomputable def c_impl_cloneShape : Ctx := mkC Try.prog tyT [] [] [(68, s_impl_cloneNode)] 23 a_impl_cloneShape 0 false [] true
noncomputable def gp_impl_cloneShape : List (List (Option Ty)) := List.map giveR [.agg [.deep tN]]
noncomputable def fr_impl_cloneShape_3 (s zs : ShapeD) (n i m : Int) : Fr := [(2, .ptr 1 0), (3, .ptr 2 0), (8, .vec tN s), (9, .int .i64 n), (10, .int .i64 i)]
noncomputable def hp_impl_cloneShape_3 (s zs : ShapeD) (n i m : Int) : Heap := (match m with | 0 => [.box [.vec tN s], .box [.nils], .box [.nils]] | _ => [.box [.vec tN s], .box [.nils], .box [.dob 3 0], .dp 0 0 tN zs])
theorem r_impl_cloneShape_3_0 (s zs : ShapeD) (n i : Int) (Kn : Fr → Heap → Prop) (K : V → Heap → Prop) : round c_impl_cloneShape ⟨[2,3,8,9,10],3,true⟩ (lb c_impl_cloneShape 3 Try.f52) (fr_impl_cloneShape_3 s zs n i (0 : Int)) (hp_impl_cloneShape_3 s zs n i (0 : Int)) Kn (lkG gp_impl_cloneShape c_impl_cloneShape 3 Try.f52 [] K) =
  cond (decide (i < n))
    (cond (decide (0 ≤ i))
      ((match s[Int.toNat i]? with
        | some y0 => cond (decide (List.length (Prod.snd (Prod.snd (Prod.snd y0))) ≤ 1048576))
          (Kn [(2, (.ptr 1 0)), (3, (.ptr 2 0)), (8, (.vec tN (s))), (9, (.int .i64 (n))), (10, (.int .i64 (IntKind.wrap IntKind.i64 (i + 1))))] [(.box [(.vec tN (s))]), (.box [.nils]), (.box [(.dob 3 0)]), (.dp 0 0 tN ([y0]))])
          (False)
        | none => False))
      (False))
    (K (.agg [(.dob 0 0)]) [(.dp 0 0 tN ([]))]) := by kernel_rfl
theorem r_impl_cloneShape_3_1 (s zs : ShapeD) (n i : Int) (Kn : Fr → Heap → Prop) (K : V → Heap → Prop) : round c_impl_cloneShape ⟨[2,3,8,9,10],3,true⟩ (lb c_impl_cloneShape 3 Try.f52) (fr_impl_cloneShape_3 s zs n i (1 : Int)) (hp_impl_cloneShape_3 s zs n i (1 : Int)) Kn (lkG gp_impl_cloneShape c_impl_cloneShape 3 Try.f52 [] K) =
  cond (decide (i < n))
    (cond (decide (0 ≤ i))
      ((match s[Int.toNat i]? with
        | some y0 => cond (decide (List.length (Prod.snd (Prod.snd (Prod.snd y0))) ≤ 1048576))
          (cond (decide ((List.length zs + 1) * 48 ≤ 140737488355328))
            (Kn [(2, (.ptr 1 0)), (3, (.ptr 2 0)), (8, (.vec tN (s))), (9, (.int .i64 (n))), (10, (.int .i64 (IntKind.wrap IntKind.i64 (i + 1))))] [(.box [(.vec tN (s))]), (.box [.nils]), (.box [(.dob 3 0)]), (.dp 0 0 tN (zs ++ [y0]))])
            (False))
          (False)
        | none => False))
      (False))
    (K (.agg [(.dob 0 0)]) [(.dp 0 0 tN (zs))]) := by kernel_rfl
theorem w_impl_cloneShape (s : ShapeD) (K : V → Heap → Prop) : wpFnG gp_impl_cloneShape c_impl_cloneShape Try.f52 (encAs [.agg tS] (s, ())) [] K =
  LoopE c_impl_cloneShape ⟨[2, 3, 8, 9, 10], 3, true⟩ (lb c_impl_cloneShape 3 Try.f52) [(2, (.ptr 1 0)), (3, (.ptr 2 0)), (8, (.vec tN (s))), (9, (.int .i64 ((↑(List.length s) : Int)))), (10, (.int .i64 0))] [(.box [(.vec tN (s))]), (.box [.nils]), (.box [.nils])] (lkG gp_impl_cloneShape c_impl_cloneShape 3 Try.f52 [] K) := by kernel_rfl
noncomputable def s_impl_cloneShape : Sm := semV [.agg tS] [.agg [.deep tN]] (fun x => match x with | (s, _) => fitS s) fun x => match x with | (s, _) => ((s, ()), ())
theorem ok_impl_cloneShape : FnOkL Try.prog 52 s_impl_cloneShape := fnOkO_give (fnOkO_runG (C := c_impl_cloneShape) gp_impl_cloneShape rfl mixed .nil .nil (.cons ok_impl_cloneNode .nil) Try.func52 (by kernel_rfl)) rfl fun (x : ((ShapeD) × Unit)) wf hg K h => by
  obtain ⟨s, ⟨⟩⟩ := x
  replace hg : (fitS s) = true := hg
  replace h : K (tup (valRs [.agg [.deep tN]] (((s, ()), ())) 0)) (thRs [.agg [.deep tN]] (((s, ()), ()))) := h
  rw [w_impl_cloneShape s K]
  have g3 := fitS_len hg
  refine loop_run (σ := Nat) (fun i => fr_impl_cloneShape_3 s [] s.length i 0) (fun i => match i with | 0 => hp_impl_cloneShape_3 s [] s.length 0 0 | j + 1 => hp_impl_cloneShape_3 s (s.take (j + 1)) s.length 0 1) (fun i => i ≤ s.length) (fun i => s.length - i) ?_ 0 (Nat.zero_le _)
  intro i hi Kn hk
  cases i with
  | zero =>
    refine Eq.mpr (r_impl_cloneShape_3_0 s [] s.length ((0 : Nat) : Int) Kn K) ?_
    by_cases hlt : 0 < s.length
    · have hf := fitS_at hg hlt
      simp only [d_lt hlt, d_0, cond_true, Int.toNat_natCast, get_lt hlt, d_t hf]
      rw [i64_of (show -9223372036854775808 ≤ ((0 : Nat) : Int) + 1 by omega) (by omega)]
      have := hk 1 hlt (by omega)
      simp only [take_one hlt, List.take_zero, List.nil_append] at this
      exact this
    · have : s = [] := List.eq_nil_of_length_eq_zero (by omega)
      subst this
      exact h
  | succ j =>
    refine Eq.mpr (r_impl_cloneShape_3_1 s (s.take (j + 1)) s.length ((j + 1 : Nat) : Int) Kn K) ?_
    by_cases hlt : j + 1 < s.length
    · have hf := fitS_at hg hlt
      have hl : (s.take (j + 1)).length = j + 1 := by rw [List.length_take]; omega
      simp only [d_lt hlt, d_0, cond_true, Int.toNat_natCast, get_lt hlt, d_t hf, hl, d_t (show (j + 1 + 1) * 48 ≤ 140737488355328 by omega)]
      rw [i64_of (show -9223372036854775808 ≤ ((j + 1 : Nat) : Int) + 1 by omega) (by omega)]
      have := hk (j + 1 + 1) hlt (by omega)
      simp only [take_one hlt] at this
      exact this
    · have : j + 1 = s.length := by omega
      simp only [d_nlt hlt, cond_false]
      rw [this, List.take_length]
      exact h

/-! impl.cloneThing -/
noncomputable def c_impl_cloneThing : Ctx := mkC Try.prog tyT [] [] [(52, s_impl_cloneShape), (53, s_slices_Clone__implKey)] 12 (fun _ => none) 0 false [] true
noncomputable def gp_impl_cloneThing : List (List (Option Ty)) := List.map giveR [.agg [.imm .str, .deep tN, .own tK]]
theorem w_impl_cloneThing (s : Str) (ns : ShapeD) (ks : List KeyD) (K : V → Heap → Prop) : wpFnG gp_impl_cloneThing c_impl_cloneThing Try.f33 (encAs [.agg tT] ((s, ns, ks), ())) [] K =
  cond (fitS ns)
    (cond (decide (List.length ks ≤ 1048576))
      (K (.agg [(.str (s)), (.dob 0 0), (.obj 1 0)]) [(.dp 0 0 tN (ns)), (.sl 0 tK (ks))])
      (False))
    (False) := by kernel_rfl
noncomputable def s_impl_cloneThing : Sm := semV [.agg tT] [.agg [.imm .str, .deep tN, .own tK]] (fun x => match x with | ((s, ns, ks), _) => fitT (s, ns, ks)) fun x => match x with | ((s, ns, ks), _) => ((s, ns, ks, ()), ())
theorem ok_impl_cloneThing : FnOkL Try.prog 33 s_impl_cloneThing := fnOkO_give (fnOkO_runG (C := c_impl_cloneThing) gp_impl_cloneThing rfl mixed .nil .nil (.cons ok_impl_cloneShape (.cons ok_slices_Clone__implKey .nil)) Try.func33 (by kernel_rfl)) rfl fun (x : (((Str) × (ShapeD) × (List KeyD)) × Unit)) wf hg K h => by
  obtain ⟨⟨s, ns, ks⟩, ⟨⟩⟩ := x
  replace hg : (fitT (s, ns, ks)) = true := hg
  replace h : K (tup (valRs [.agg [.imm .str, .deep tN, .own tK]] (((s, ns, ks, ()), ())) 0)) (thRs [.agg [.imm .str, .deep tN, .own tK]] (((s, ns, ks, ()), ()))) := h
  rw [w_impl_cloneThing s ns ks K]
  unfold fitT at hg
  simp only [Bool.and_eq_true] at hg
  rw [hg.1, hg.2]
  exact h

end Go.Proofs.Ytmkomfhnomnbiaa
