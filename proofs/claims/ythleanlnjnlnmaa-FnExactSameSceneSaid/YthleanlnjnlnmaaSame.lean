/- Scenes: equality as the program and the reference tell it. -/
import Derived.Test.YthleanlnjnlnmaaScene
set_option linter.unusedVariables false
set_option linter.unusedSimpArgs false
set_option maxRecDepth 100000
namespace Go.Proofs.Ythleanlnjnlnmaa
open Go.Ev

/-! impl.sameNode -/
noncomputable def c_impl_sameNode : Ctx := mkC Try.prog tyT [(80, s_impl_sameList)] [] [] 31 (fun _ => none) 0
theorem w_impl_sameNode (k a b : Int) (xs : List Nat) (k' a' b' : Int) (xs' : List Nat) (K : V → Heap → Prop) : wpFn c_impl_sameNode Try.f79 (encAs [.agg tN, .agg tN] ((k, a, b, xs), (k', a', b', xs'), ())) [] K =
  cond (k == k')
    (cond (a == a')
      (cond (b == b')
        (K (.bool (xs == xs')) [])
        (K (.bool false) []))
      (K (.bool false) []))
    (K (.bool false) []) := by kernel_rfl
noncomputable def s_impl_sameNode : Sm := semT [.agg tN, .agg tN] fun x => match x with | ((k, a, b, xs), (k', a', b', xs'), _) => .bool ((k, a, b, xs) == (k', a', b', xs'))
theorem ok_impl_sameNode : FnOk Try.prog 79 s_impl_sameNode := fnOk_typed (fnOk_runC (C := c_impl_sameNode) rfl mixed (.cons ok_impl_sameList .nil) .nil .nil Try.func79 (by kernel_rfl)) fun (x : (((Int) × (Int) × (Int) × (List Nat)) × ((Int) × (Int) × (Int) × (List Nat)) × Unit)) wf K h => by
  obtain ⟨⟨k, a, b, xs⟩, ⟨k', a', b', xs'⟩, ⟨⟩⟩ := x
  replace h : K (.bool ((k, a, b, xs) == (k', a', b', xs'))) [] := h
  rw [w_impl_sameNode k a b xs k' a' b' xs' K]
  rw [show ((k, a, b, xs) == (k', a', b', xs')) = (k == k' && (a == a' && (b == b' && xs == xs'))) from rfl] at h
  revert h
  cases k == k' <;> cases a == a' <;> cases b == b' <;> exact id

/-! slices.EqualFunc[[]impl.Node,[]impl.Node,impl.Node,impl.Node] -/
noncomputable def a_slices_EqualFunc__implNode : Nat → Option Ann := fun n => bif Nat.beq n 4 then some ⟨[1,2,15,16,17],0⟩ else none
noncomputable def c_slices_EqualFunc__implNode : Ctx := mkC Try.prog tyT [(79, s_impl_sameNode)] [] [] 32 a_slices_EqualFunc__implNode 0
noncomputable def fr_slices_EqualFunc__implNode_4 (xs ys : List (NodeD)) (n i : Int) : Fr := [(1, .vec (tN) ys), (2, .fn 79 []), (15, .vec (tN) xs), (16, .int .i64 n), (17, .int .i64 i)]
theorem r_slices_EqualFunc__implNode_4 (xs ys : List (NodeD)) (n i : Int) (Kn : Fr → Heap → Prop) (K : V → Heap → Prop) : round c_slices_EqualFunc__implNode ⟨[1,2,15,16,17],0⟩ (lb c_slices_EqualFunc__implNode 4 Try.f78) (fr_slices_EqualFunc__implNode_4 xs ys n i) [] Kn (lk c_slices_EqualFunc__implNode 4 Try.f78 [] K) =
  cond (decide (i < n))
    (cond (decide (0 ≤ i))
      ((match xs[Int.toNat i]? with
        | some y0 => cond (decide (0 ≤ i))
          ((match ys[Int.toNat i]? with
            | some y1 => cond (!y0 == y1)
              (K (.bool false) [])
              (Kn [(1, (.vec (.pair (.int .i64) (.pair (.int .i64) (.pair (.int .i64) (.slice (.float .f32))))) (ys))), (2, (.fn 79 [])), (15, (.vec (.pair (.int .i64) (.pair (.int .i64) (.pair (.int .i64) (.slice (.float .f32))))) (xs))), (16, (.int .i64 (n))), (17, (.int .i64 (IntKind.wrap IntKind.i64 (i + 1))))] [])
            | none => False))
          (False)
        | none => False))
      (False))
    (K (.bool true) []) := by kernel_rfl
theorem w_slices_EqualFunc__implNode (xs ys : List (NodeD)) (K : V → Heap → Prop) : wpFn c_slices_EqualFunc__implNode Try.f78 (encAs [.cell (.slice (tN)), .cell (.slice (tN)), .fn 79] (xs, ys, (), ())) [] K =
  cond ((↑(List.length xs) : Int) != (↑(List.length ys) : Int))
    (K (.bool false) [])
    (LoopE c_slices_EqualFunc__implNode ⟨[1, 2, 15, 16, 17], 0⟩ (lb c_slices_EqualFunc__implNode 4 Try.f78) [(1, (.vec (.pair (.int .i64) (.pair (.int .i64) (.pair (.int .i64) (.slice (.float .f32))))) (ys))), (2, (.fn 79 [])), (15, (.vec (.pair (.int .i64) (.pair (.int .i64) (.pair (.int .i64) (.slice (.float .f32))))) (xs))), (16, (.int .i64 ((↑(List.length xs) : Int)))), (17, (.int .i64 0))] [] (lk c_slices_EqualFunc__implNode 4 Try.f78 [] K)) := by kernel_rfl
noncomputable def s_slices_EqualFunc__implNode : Sm := semT [.cell (.slice (tN)), .cell (.slice (tN)), .fn 79] fun x => match x with | (xs, ys, _, _) => .bool (xs == ys)
theorem ok_slices_EqualFunc__implNode : FnOk Try.prog 78 s_slices_EqualFunc__implNode := fnOk_typed (fnOk_runC (C := c_slices_EqualFunc__implNode) rfl mixed (.cons ok_impl_sameNode .nil) .nil .nil Try.func78 (by kernel_rfl)) fun (x : ((List (NodeD)) × (List (NodeD)) × Unit × Unit)) wf K h => by
  obtain ⟨xs, ys, ⟨⟩, ⟨⟩⟩ := x
  replace h : K (.bool (xs == ys)) [] := h
  rw [w_slices_EqualFunc__implNode xs ys K]
  obtain ⟨⟨wl, _⟩, _⟩ := wf
  have wl : xs.length ≤ 9223372036854775807 := wl
  rw [bne_cast]
  by_cases hl : xs.length = ys.length
  · rw [show (xs.length != ys.length) = false by rw [hl]; exact bne_self_eq_false _]
    simp only [cond_false]
    refine loop_run (σ := Nat) (fun i => fr_slices_EqualFunc__implNode_4 xs ys xs.length i) (fun _ => []) (fun i => i ≤ ys.length ∧ xs.take i = ys.take i) (fun i => ys.length - i) ?_ 0 ⟨Nat.zero_le _, rfl⟩
    intro i hi Kn hk
    rw [r_slices_EqualFunc__implNode_4 xs ys xs.length i Kn K]
    by_cases hlt : i < ys.length
    · have hlx : i < xs.length := by omega
      simp only [d_lt hlx, d_0, cond_true, Int.toNat_natCast, get_lt hlt, get_lt hlx]
      by_cases he : xs[i]'hlx = ys[i]'hlt
      · simp only [he, beq_self_eq_true, Bool.not_true, cond_false]
        rw [i64_of (by omega) (by omega)]
        refine hk (i + 1) ⟨hlt, ?_⟩ (by omega)
        rw [take_one hlx, take_one hlt, hi.2, he]
      · have hb : (xs[i]'hlx == ys[i]'hlt) = false := beq_eq_false_iff_ne.2 he
        simp only [hb, Bool.not_false, cond_true]
        have hne : (xs == ys) = false := beq_eq_false_iff_ne.2 fun e => he (by simp only [e])
        rw [hne] at h; exact h
    · have hlx : ¬ i < xs.length := by omega
      simp only [d_nlt hlx, cond_false]
      have : xs = ys := by
        have := hi.2
        rwa [List.take_of_length_le (by omega), List.take_of_length_le (by omega)] at this
      rw [this, beq_self_eq_true] at h; exact h
  · have : (xs.length != ys.length) = true := by simp [hl]
    simp only [this, cond_true]
    have hne : (xs == ys) = false := beq_eq_false_iff_ne.2 fun e => hl (by rw [e])
    rw [hne] at h; exact h

/-! impl.SameShape -/
noncomputable def c_impl_SameShape : Ctx := mkC Try.prog tyT [(78, s_slices_EqualFunc__implNode), (79, s_impl_sameNode)] [] [] 10 (fun _ => none) 0
theorem w_impl_SameShape (m n : ShapeD) (K : V → Heap → Prop) : wpFn c_impl_SameShape Try.f52 (encAs [.agg tS, .agg tS] (m, n, ())) [] K =
  K (.bool (m == n)) [] := by kernel_rfl
noncomputable def s_impl_SameShape : Sm := semT [.agg tS, .agg tS] fun x => match x with | (m, n, _) => .bool (m == n)
theorem ok_impl_SameShape : FnOk Try.prog 52 s_impl_SameShape := fnOk_typed (fnOk_runC (C := c_impl_SameShape) rfl mixed (.cons ok_slices_EqualFunc__implNode (.cons ok_impl_sameNode .nil)) .nil .nil Try.func52 (by kernel_rfl)) fun (x : ((ShapeD) × (ShapeD) × Unit)) wf K h => by
  obtain ⟨m, n, ⟨⟩⟩ := x
  replace h : K (.bool (m == n)) [] := h
  rw [w_impl_SameShape m n K]
  exact h

/-! spec.SameShape -/
noncomputable def a_spec_SameShape : Nat → Option Ann := fun n => bif Nat.beq n 4 then some ⟨[2,3,5],2⟩ else none
noncomputable def c_spec_SameShape : Ctx := mkC Try.prog tyT [(50, s_spec_l01SameAll)] [] [] 73 a_spec_SameShape 0
noncomputable def fr_spec_SameShape_4 (m n : ShapeD) (i : Int) : Fr := [(2, .ptr 0 0), (3, .ptr 1 0), (5, .int .i64 i)]
noncomputable def hp_spec_SameShape_4 (m n : ShapeD) (i : Int) : Heap := [.box [.vec tN m], .box [.vec tN n]]
theorem r_spec_SameShape_4 (m n : ShapeD) (i : Int) (Kn : Fr → Heap → Prop) (K : V → Heap → Prop) : round c_spec_SameShape ⟨[2,3,5],2⟩ (lb c_spec_SameShape 4 Try.f28) (fr_spec_SameShape_4 m n i) (hp_spec_SameShape_4 m n i) Kn (lk c_spec_SameShape 4 Try.f28 [] K) =
  cond (decide (i < (↑(List.length m) : Int)))
    (cond (decide (0 ≤ i))
      ((match m[Int.toNat i]? with
        | some y0 => cond (decide (0 ≤ i))
          ((match n[Int.toNat i]? with
            | some y1 => cond (Prod.fst y0 != Prod.fst y1)
              (K (.bool false) [])
              (cond (Prod.fst (Prod.snd y0) != Prod.fst (Prod.snd y1))
                (K (.bool false) [])
                (cond (Prod.fst (Prod.snd (Prod.snd y0)) != Prod.fst (Prod.snd (Prod.snd y1)))
                  (K (.bool false) [])
                  (cond (!Prod.snd (Prod.snd (Prod.snd y0)) == Prod.snd (Prod.snd (Prod.snd y1)))
                    (K (.bool false) [])
                    (Kn [(2, (.ptr 0 0)), (3, (.ptr 1 0)), (5, (.int .i64 (IntKind.wrap IntKind.i64 (i + 1))))] [(.box [(.vec (.pair (.int .i64) (.pair (.int .i64) (.pair (.int .i64) (.slice (.float .f32))))) (m))]), (.box [(.vec (.pair (.int .i64) (.pair (.int .i64) (.pair (.int .i64) (.slice (.float .f32))))) (n))])]))))
            | none => False))
          (False)
        | none => False))
      (False))
    (K (.bool true) []) := by kernel_rfl
theorem w_spec_SameShape (m n : ShapeD) (K : V → Heap → Prop) : wpFn c_spec_SameShape Try.f28 (encAs [.agg tS, .agg tS] (m, n, ())) [] K =
  cond ((↑(List.length m) : Int) != (↑(List.length n) : Int))
    (K (.bool false) [])
    (LoopE c_spec_SameShape ⟨[2, 3, 5], 2⟩ (lb c_spec_SameShape 4 Try.f28) [(2, (.ptr 0 0)), (3, (.ptr 1 0)), (5, (.int .i64 0))] [(.box [(.vec (.pair (.int .i64) (.pair (.int .i64) (.pair (.int .i64) (.slice (.float .f32))))) (m))]), (.box [(.vec (.pair (.int .i64) (.pair (.int .i64) (.pair (.int .i64) (.slice (.float .f32))))) (n))])] (lk c_spec_SameShape 4 Try.f28 [] K)) := by kernel_rfl
noncomputable def s_spec_SameShape : Sm := semT [.agg tS, .agg tS] fun x => match x with | (m, n, _) => .bool (m == n)
theorem ok_spec_SameShape : FnOk Try.prog 28 s_spec_SameShape := fnOk_typed (fnOk_runC (C := c_spec_SameShape) rfl mixed (.cons ok_spec_l01SameAll .nil) .nil .nil Try.func28 (by kernel_rfl)) fun (x : ((ShapeD) × (ShapeD) × Unit)) wf K h => by
  obtain ⟨m, n, ⟨⟩⟩ := x
  replace h : K (.bool (m == n)) [] := h
  rw [w_spec_SameShape m n K]
  obtain ⟨⟨wl, _⟩, _⟩ := wf
  have wl : m.length ≤ 9223372036854775807 := wl
  rw [bne_cast]
  by_cases hl : m.length = n.length
  · rw [show (m.length != n.length) = false by rw [hl]; exact bne_self_eq_false _]
    simp only [cond_false]
    refine loop_run (σ := Nat) (fun i => fr_spec_SameShape_4 m n i) (fun i => hp_spec_SameShape_4 m n i) (fun i => i ≤ n.length ∧ m.take i = n.take i) (fun i => n.length - i) ?_ 0 ⟨Nat.zero_le _, rfl⟩
    intro i hi Kn hk
    rw [r_spec_SameShape_4 m n i Kn K]
    by_cases hlt : i < n.length
    · have hlx : i < m.length := by omega
      simp only [d_lt hlx, d_0, cond_true, Int.toNat_natCast, get_lt hlt, get_lt hlx]
      rw [i64_of (n := (i : Int) + 1) (by omega) (by omega)]
      have next : m[i]'hlx = n[i]'hlt → Kn (fr_spec_SameShape_4 m n ((i : Int) + 1)) (hp_spec_SameShape_4 m n i) := fun e =>
        hk (i + 1) ⟨hlt, by rw [take_one hlx, take_one hlt, hi.2, e]⟩ (by omega)
      have no : m[i]'hlx ≠ n[i]'hlt → K (.bool false) [] := fun he => by
        rw [beq_eq_false_iff_ne.2 fun e => he (by simp only [e])] at h
        exact h
      generalize m[i]'hlx = x at *
      generalize n[i]'hlt = y at *
      obtain ⟨k, a, b, xs⟩ := x
      obtain ⟨k', a', b', xs'⟩ := y
      by_cases h1 : k = k'
      · subst h1
        simp only [bne_self_eq_false, cond_false]
        by_cases h2 : a = a'
        · subst h2
          simp only [bne_self_eq_false, cond_false]
          by_cases h3 : b = b'
          · subst h3
            simp only [bne_self_eq_false, cond_false]
            by_cases h4 : xs = xs'
            · subst h4
              simp only [beq_self_eq_true, Bool.not_true, cond_false]
              exact next rfl
            · rw [show (xs == xs') = false from beq_eq_false_iff_ne.2 h4]
              exact no fun e => h4 (by injection e with _ e; injection e with _ e; injection e)
          · rw [show (b != b') = true from bne_iff_ne.2 h3]
            exact no fun e => h3 (by injection e with _ e; injection e with _ e; injection e)
        · rw [show (a != a') = true from bne_iff_ne.2 h2]
          exact no fun e => h2 (by injection e with _ e; injection e)
      · rw [show (k != k') = true from bne_iff_ne.2 h1]
        exact no fun e => h1 (by injection e)
    · have hlx : ¬ i < m.length := by omega
      simp only [d_nlt hlx, cond_false]
      have e : m = n := by
        have := hi.2
        rwa [List.take_of_length_le (by omega), List.take_of_length_le (by omega)] at this
      rw [e, beq_self_eq_true] at h
      exact h
  · rw [show (m.length != n.length) = true by simp [hl]]
    rw [beq_eq_false_iff_ne.2 fun e => hl (by rw [e])] at h
    exact h

/-! spec.l10Same -/
noncomputable def a_spec_l10Same : Nat → Option Ann := fun n => bif Nat.beq n 4 then some ⟨[0,1,5],0⟩ else none
noncomputable def c_spec_l10Same : Ctx := mkC Try.prog tyT [(51, s_spec_l01VSame)] [] [] 42 a_spec_l10Same 0
noncomputable def fr_spec_l10Same_4 (m n : List KeyD) (i : Int) : Fr := [(0, .vec tK m), (1, .vec tK n), (5, .int .i64 i)]
theorem r_spec_l10Same_4 (m n : List KeyD) (i : Int) (Kn : Fr → Heap → Prop) (K : V → Heap → Prop) : round c_spec_l10Same ⟨[0,1,5],0⟩ (lb c_spec_l10Same 4 Try.f29) (fr_spec_l10Same_4 m n i) [] Kn (lk c_spec_l10Same 4 Try.f29 [] K) =
  cond (decide (i < (↑(List.length m) : Int)))
    (cond (decide (0 ≤ i))
      ((match m[Int.toNat i]? with
        | some y0 => cond (decide (0 ≤ i))
          ((match n[Int.toNat i]? with
            | some y1 => cond (Prod.fst y0 != Prod.fst y1)
              (K (.bool false) [])
              (cond (decide (0 ≤ i))
                ((match m[Int.toNat i]? with
                  | some y2 => cond (decide (0 ≤ i))
                    ((match n[Int.toNat i]? with
                      | some y3 => cond (!Prod.snd y2 == Prod.snd y3)
                        (K (.bool false) [])
                        (Kn [(0, (.vec (.pair (.int .i64) (.pair (.float .f32) (.pair (.float .f32) (.float .f32)))) (m))), (1, (.vec (.pair (.int .i64) (.pair (.float .f32) (.pair (.float .f32) (.float .f32)))) (n))), (5, (.int .i64 (IntKind.wrap IntKind.i64 (i + 1))))] [])
                      | none => False))
                    (False)
                  | none => False))
                (False))
            | none => False))
          (False)
        | none => False))
      (False))
    (K (.bool true) []) := by kernel_rfl
theorem w_spec_l10Same (m n : List KeyD) (K : V → Heap → Prop) : wpFn c_spec_l10Same Try.f29 (encAs [.cell (.slice tK), .cell (.slice tK)] (m, n, ())) [] K =
  cond ((↑(List.length m) : Int) != (↑(List.length n) : Int))
    (K (.bool false) [])
    (LoopE c_spec_l10Same ⟨[0, 1, 5], 0⟩ (lb c_spec_l10Same 4 Try.f29) [(0, (.vec (.pair (.int .i64) (.pair (.float .f32) (.pair (.float .f32) (.float .f32)))) (m))), (1, (.vec (.pair (.int .i64) (.pair (.float .f32) (.pair (.float .f32) (.float .f32)))) (n))), (5, (.int .i64 0))] [] (lk c_spec_l10Same 4 Try.f29 [] K)) := by kernel_rfl
noncomputable def s_spec_l10Same : Sm := semT [.cell (.slice tK), .cell (.slice tK)] fun x => match x with | (m, n, _) => .bool (m == n)
theorem ok_spec_l10Same : FnOk Try.prog 29 s_spec_l10Same := fnOk_typed (fnOk_runC (C := c_spec_l10Same) rfl mixed (.cons ok_spec_l01VSame .nil) .nil .nil Try.func29 (by kernel_rfl)) fun (x : ((List KeyD) × (List KeyD) × Unit)) wf K h => by
  obtain ⟨m, n, ⟨⟩⟩ := x
  replace h : K (.bool (m == n)) [] := h
  rw [w_spec_l10Same m n K]
  obtain ⟨⟨wl, _⟩, _⟩ := wf
  have wl : m.length ≤ 9223372036854775807 := wl
  rw [bne_cast]
  by_cases hl : m.length = n.length
  · rw [show (m.length != n.length) = false by rw [hl]; exact bne_self_eq_false _]
    simp only [cond_false]
    refine loop_run (σ := Nat) (fun i => fr_spec_l10Same_4 m n i) (fun i => []) (fun i => i ≤ n.length ∧ m.take i = n.take i) (fun i => n.length - i) ?_ 0 ⟨Nat.zero_le _, rfl⟩
    intro i hi Kn hk
    rw [r_spec_l10Same_4 m n i Kn K]
    by_cases hlt : i < n.length
    · have hlx : i < m.length := by omega
      simp only [d_lt hlx, d_0, cond_true, Int.toNat_natCast, get_lt hlt, get_lt hlx]
      rw [i64_of (n := (i : Int) + 1) (by omega) (by omega)]
      have next : m[i]'hlx = n[i]'hlt → Kn (fr_spec_l10Same_4 m n ((i : Int) + 1)) [] := fun e =>
        hk (i + 1) ⟨hlt, by rw [take_one hlx, take_one hlt, hi.2, e]⟩ (by omega)
      have no : m[i]'hlx ≠ n[i]'hlt → K (.bool false) [] := fun he => by
        rw [beq_eq_false_iff_ne.2 fun e => he (by simp only [e])] at h
        exact h
      generalize m[i]'hlx = x at *
      generalize n[i]'hlt = y at *
      obtain ⟨k, u⟩ := x
      obtain ⟨k', u'⟩ := y
      by_cases h1 : k = k'
      · subst h1
        simp only [bne_self_eq_false, cond_false]
        by_cases h2 : u = u'
        · subst h2
          simp only [beq_self_eq_true, Bool.not_true, cond_false]
          exact next rfl
        · change cond (!(u == u')) _ _
          rw [show (u == u') = false from beq_eq_false_iff_ne.2 h2]
          exact no fun e => h2 (by injection e)
      · rw [show (k != k') = true from bne_iff_ne.2 h1]
        exact no fun e => h1 (by injection e)
    · have hlx : ¬ i < m.length := by omega
      simp only [d_nlt hlx, cond_false]
      have e : m = n := by
        have := hi.2
        rwa [List.take_of_length_le (by omega), List.take_of_length_le (by omega)] at this
      rw [e, beq_self_eq_true] at h
      exact h
  · rw [show (m.length != n.length) = true by simp [hl]]
    rw [beq_eq_false_iff_ne.2 fun e => hl (by rw [e])] at h
    exact h

/-! impl.sameThing$1 -/
noncomputable def c_impl_sameThing_1 : Ctx := mkC Try.prog tyT [(55, s_impl_SameVector)] [] [] 17 (fun _ => none) 0
theorem w_impl_sameThing_1 (k : Int) (u : V3) (k' : Int) (u' : V3) (K : V → Heap → Prop) : wpFn c_impl_sameThing_1 Try.f54 (encAs [.agg tK, .agg tK] ((k, u), (k', u'), ())) [] K =
  cond (k == k')
    (K (.bool (u == u')) [])
    (K (.bool false) []) := by kernel_rfl
noncomputable def s_impl_sameThing_1 : Sm := semT [.agg tK, .agg tK] fun x => match x with | ((k, u), (k', u'), _) => .bool ((k, u) == (k', u'))
theorem ok_impl_sameThing_1 : FnOk Try.prog 54 s_impl_sameThing_1 := fnOk_typed (fnOk_runC (C := c_impl_sameThing_1) rfl mixed (.cons ok_impl_SameVector .nil) .nil .nil Try.func54 (by kernel_rfl)) fun (x : (((Int) × (V3)) × ((Int) × (V3)) × Unit)) wf K h => by
  obtain ⟨⟨k, u⟩, ⟨k', u'⟩, ⟨⟩⟩ := x
  replace h : K (.bool ((k, u) == (k', u'))) [] := h
  rw [w_impl_sameThing_1 k u k' u' K]
  rw [show ((k, u) == (k', u')) = (k == k' && u == u') from rfl] at h
  revert h
  cases k == k' <;> exact id

/-! slices.EqualFunc[[]impl.Key,[]impl.Key,impl.Key,impl.Key] -/
noncomputable def a_slices_EqualFunc__implKey : Nat → Option Ann := fun n => bif Nat.beq n 4 then some ⟨[1,2,15,16,17],0⟩ else none
noncomputable def c_slices_EqualFunc__implKey : Ctx := mkC Try.prog tyT [(54, s_impl_sameThing_1)] [] [] 32 a_slices_EqualFunc__implKey 0
noncomputable def fr_slices_EqualFunc__implKey_4 (xs ys : List (KeyD)) (n i : Int) : Fr := [(1, .vec (tK) ys), (2, .fn 54 []), (15, .vec (tK) xs), (16, .int .i64 n), (17, .int .i64 i)]
theorem r_slices_EqualFunc__implKey_4 (xs ys : List (KeyD)) (n i : Int) (Kn : Fr → Heap → Prop) (K : V → Heap → Prop) : round c_slices_EqualFunc__implKey ⟨[1,2,15,16,17],0⟩ (lb c_slices_EqualFunc__implKey 4 Try.f53) (fr_slices_EqualFunc__implKey_4 xs ys n i) [] Kn (lk c_slices_EqualFunc__implKey 4 Try.f53 [] K) =
  cond (decide (i < n))
    (cond (decide (0 ≤ i))
      ((match xs[Int.toNat i]? with
        | some y0 => cond (decide (0 ≤ i))
          ((match ys[Int.toNat i]? with
            | some y1 => cond (!y0 == y1)
              (K (.bool false) [])
              (Kn [(1, (.vec (.pair (.int .i64) (.pair (.float .f32) (.pair (.float .f32) (.float .f32)))) (ys))), (2, (.fn 54 [])), (15, (.vec (.pair (.int .i64) (.pair (.float .f32) (.pair (.float .f32) (.float .f32)))) (xs))), (16, (.int .i64 (n))), (17, (.int .i64 (IntKind.wrap IntKind.i64 (i + 1))))] [])
            | none => False))
          (False)
        | none => False))
      (False))
    (K (.bool true) []) := by kernel_rfl
theorem w_slices_EqualFunc__implKey (xs ys : List (KeyD)) (K : V → Heap → Prop) : wpFn c_slices_EqualFunc__implKey Try.f53 (encAs [.cell (.slice (tK)), .cell (.slice (tK)), .fn 54] (xs, ys, (), ())) [] K =
  cond ((↑(List.length xs) : Int) != (↑(List.length ys) : Int))
    (K (.bool false) [])
    (LoopE c_slices_EqualFunc__implKey ⟨[1, 2, 15, 16, 17], 0⟩ (lb c_slices_EqualFunc__implKey 4 Try.f53) [(1, (.vec (.pair (.int .i64) (.pair (.float .f32) (.pair (.float .f32) (.float .f32)))) (ys))), (2, (.fn 54 [])), (15, (.vec (.pair (.int .i64) (.pair (.float .f32) (.pair (.float .f32) (.float .f32)))) (xs))), (16, (.int .i64 ((↑(List.length xs) : Int)))), (17, (.int .i64 0))] [] (lk c_slices_EqualFunc__implKey 4 Try.f53 [] K)) := by kernel_rfl
noncomputable def s_slices_EqualFunc__implKey : Sm := semT [.cell (.slice (tK)), .cell (.slice (tK)), .fn 54] fun x => match x with | (xs, ys, _, _) => .bool (xs == ys)
theorem ok_slices_EqualFunc__implKey : FnOk Try.prog 53 s_slices_EqualFunc__implKey := fnOk_typed (fnOk_runC (C := c_slices_EqualFunc__implKey) rfl mixed (.cons ok_impl_sameThing_1 .nil) .nil .nil Try.func53 (by kernel_rfl)) fun (x : ((List (KeyD)) × (List (KeyD)) × Unit × Unit)) wf K h => by
  obtain ⟨xs, ys, ⟨⟩, ⟨⟩⟩ := x
  replace h : K (.bool (xs == ys)) [] := h
  rw [w_slices_EqualFunc__implKey xs ys K]
  obtain ⟨⟨wl, _⟩, _⟩ := wf
  have wl : xs.length ≤ 9223372036854775807 := wl
  rw [bne_cast]
  by_cases hl : xs.length = ys.length
  · rw [show (xs.length != ys.length) = false by rw [hl]; exact bne_self_eq_false _]
    simp only [cond_false]
    refine loop_run (σ := Nat) (fun i => fr_slices_EqualFunc__implKey_4 xs ys xs.length i) (fun _ => []) (fun i => i ≤ ys.length ∧ xs.take i = ys.take i) (fun i => ys.length - i) ?_ 0 ⟨Nat.zero_le _, rfl⟩
    intro i hi Kn hk
    rw [r_slices_EqualFunc__implKey_4 xs ys xs.length i Kn K]
    by_cases hlt : i < ys.length
    · have hlx : i < xs.length := by omega
      simp only [d_lt hlx, d_0, cond_true, Int.toNat_natCast, get_lt hlt, get_lt hlx]
      by_cases he : xs[i]'hlx = ys[i]'hlt
      · simp only [he, beq_self_eq_true, Bool.not_true, cond_false]
        rw [i64_of (by omega) (by omega)]
        refine hk (i + 1) ⟨hlt, ?_⟩ (by omega)
        rw [take_one hlx, take_one hlt, hi.2, he]
      · have hb : (xs[i]'hlx == ys[i]'hlt) = false := beq_eq_false_iff_ne.2 he
        simp only [hb, Bool.not_false, cond_true]
        have hne : (xs == ys) = false := beq_eq_false_iff_ne.2 fun e => he (by simp only [e])
        rw [hne] at h; exact h
    · have hlx : ¬ i < xs.length := by omega
      simp only [d_nlt hlx, cond_false]
      have : xs = ys := by
        have := hi.2
        rwa [List.take_of_length_le (by omega), List.take_of_length_le (by omega)] at this
      rw [this, beq_self_eq_true] at h; exact h
  · have : (xs.length != ys.length) = true := by simp [hl]
    simp only [this, cond_true]
    have hne : (xs == ys) = false := beq_eq_false_iff_ne.2 fun e => hl (by rw [e])
    rw [hne] at h; exact h

/-! impl.sameThing -/
noncomputable def c_impl_sameThing : Ctx := mkC Try.prog tyT [(52, s_impl_SameShape), (53, s_slices_EqualFunc__implKey), (54, s_impl_sameThing_1)] [] [] 24 (fun _ => none) 0
theorem w_impl_sameThing (s : Str) (ns : ShapeD) (ks : List KeyD) (s' : Str) (ns' : ShapeD) (ks' : List KeyD) (K : V → Heap → Prop) : wpFn c_impl_sameThing Try.f31 (encAs [.agg tT, .agg tT] ((s, ns, ks), (s', ns', ks'), ())) [] K =
  cond (bytesEq s s')
    (cond (ns == ns')
      (K (.bool (ks == ks')) [])
      (K (.bool false) []))
    (K (.bool false) []) := by kernel_rfl
noncomputable def s_impl_sameThing : Sm := semT [.agg tT, .agg tT] fun x => match x with | ((s, ns, ks), (s', ns', ks'), _) => .bool ((s, ns, ks) == (s', ns', ks'))
theorem ok_impl_sameThing : FnOk Try.prog 31 s_impl_sameThing := fnOk_typed (fnOk_runC (C := c_impl_sameThing) rfl mixed (.cons ok_impl_SameShape (.cons ok_slices_EqualFunc__implKey (.cons ok_impl_sameThing_1 .nil))) .nil .nil Try.func31 (by kernel_rfl)) fun (x : (((Str) × (ShapeD) × (List KeyD)) × ((Str) × (ShapeD) × (List KeyD)) × Unit)) wf K h => by
  obtain ⟨⟨s, ns, ks⟩, ⟨s', ns', ks'⟩, ⟨⟩⟩ := x
  replace h : K (.bool ((s, ns, ks) == (s', ns', ks'))) [] := h
  rw [w_impl_sameThing s ns ks s' ns' ks' K]
  rw [show ((s, ns, ks) == (s', ns', ks')) = (s == s' && (ns == ns' && ks == ks')) from rfl] at h
  simp only [bytesEq]
  revert h
  cases s == s' <;> cases ns == ns' <;> exact id

/-! slices.EqualFunc[[]impl.Thing,[]impl.Thing,impl.Thing,impl.Thing] -/
noncomputable def a_slices_EqualFunc__implThing : Nat → Option Ann := fun n => bif Nat.beq n 4 then some ⟨[1,2,15,16,17],0⟩ else none
noncomputable def c_slices_EqualFunc__implThing : Ctx := mkC Try.prog tyT [(31, s_impl_sameThing)] [] [] 32 a_slices_EqualFunc__implThing 0
noncomputable def fr_slices_EqualFunc__implThing_4 (xs ys : List (ThingD)) (n i : Int) : Fr := [(1, .vec (tT) ys), (2, .fn 31 []), (15, .vec (tT) xs), (16, .int .i64 n), (17, .int .i64 i)]
theorem r_slices_EqualFunc__implThing_4 (xs ys : List (ThingD)) (n i : Int) (Kn : Fr → Heap → Prop) (K : V → Heap → Prop) : round c_slices_EqualFunc__implThing ⟨[1,2,15,16,17],0⟩ (lb c_slices_EqualFunc__implThing 4 Try.f30) (fr_slices_EqualFunc__implThing_4 xs ys n i) [] Kn (lk c_slices_EqualFunc__implThing 4 Try.f30 [] K) =
  cond (decide (i < n))
    (cond (decide (0 ≤ i))
      ((match xs[Int.toNat i]? with
        | some y0 => cond (decide (0 ≤ i))
          ((match ys[Int.toNat i]? with
            | some y1 => cond (!y0 == y1)
              (K (.bool false) [])
              (Kn [(1, (.vec (.pair .str (.pair (.slice (.pair (.int .i64) (.pair (.int .i64) (.pair (.int .i64) (.slice (.float .f32)))))) (.slice (.pair (.int .i64) (.pair (.float .f32) (.pair (.float .f32) (.float .f32))))))) (ys))), (2, (.fn 31 [])), (15, (.vec (.pair .str (.pair (.slice (.pair (.int .i64) (.pair (.int .i64) (.pair (.int .i64) (.slice (.float .f32)))))) (.slice (.pair (.int .i64) (.pair (.float .f32) (.pair (.float .f32) (.float .f32))))))) (xs))), (16, (.int .i64 (n))), (17, (.int .i64 (IntKind.wrap IntKind.i64 (i + 1))))] [])
            | none => False))
          (False)
        | none => False))
      (False))
    (K (.bool true) []) := by kernel_rfl
theorem w_slices_EqualFunc__implThing (xs ys : List (ThingD)) (K : V → Heap → Prop) : wpFn c_slices_EqualFunc__implThing Try.f30 (encAs [.cell (.slice (tT)), .cell (.slice (tT)), .fn 31] (xs, ys, (), ())) [] K =
  cond ((↑(List.length xs) : Int) != (↑(List.length ys) : Int))
    (K (.bool false) [])
    (LoopE c_slices_EqualFunc__implThing ⟨[1, 2, 15, 16, 17], 0⟩ (lb c_slices_EqualFunc__implThing 4 Try.f30) [(1, (.vec (.pair .str (.pair (.slice (.pair (.int .i64) (.pair (.int .i64) (.pair (.int .i64) (.slice (.float .f32)))))) (.slice (.pair (.int .i64) (.pair (.float .f32) (.pair (.float .f32) (.float .f32))))))) (ys))), (2, (.fn 31 [])), (15, (.vec (.pair .str (.pair (.slice (.pair (.int .i64) (.pair (.int .i64) (.pair (.int .i64) (.slice (.float .f32)))))) (.slice (.pair (.int .i64) (.pair (.float .f32) (.pair (.float .f32) (.float .f32))))))) (xs))), (16, (.int .i64 ((↑(List.length xs) : Int)))), (17, (.int .i64 0))] [] (lk c_slices_EqualFunc__implThing 4 Try.f30 [] K)) := by kernel_rfl
noncomputable def s_slices_EqualFunc__implThing : Sm := semT [.cell (.slice (tT)), .cell (.slice (tT)), .fn 31] fun x => match x with | (xs, ys, _, _) => .bool (xs == ys)
theorem ok_slices_EqualFunc__implThing : FnOk Try.prog 30 s_slices_EqualFunc__implThing := fnOk_typed (fnOk_runC (C := c_slices_EqualFunc__implThing) rfl mixed (.cons ok_impl_sameThing .nil) .nil .nil Try.func30 (by kernel_rfl)) fun (x : ((List (ThingD)) × (List (ThingD)) × Unit × Unit)) wf K h => by
  obtain ⟨xs, ys, ⟨⟩, ⟨⟩⟩ := x
  replace h : K (.bool (xs == ys)) [] := h
  rw [w_slices_EqualFunc__implThing xs ys K]
  obtain ⟨⟨wl, _⟩, _⟩ := wf
  have wl : xs.length ≤ 9223372036854775807 := wl
  rw [bne_cast]
  by_cases hl : xs.length = ys.length
  · rw [show (xs.length != ys.length) = false by rw [hl]; exact bne_self_eq_false _]
    simp only [cond_false]
    refine loop_run (σ := Nat) (fun i => fr_slices_EqualFunc__implThing_4 xs ys xs.length i) (fun _ => []) (fun i => i ≤ ys.length ∧ xs.take i = ys.take i) (fun i => ys.length - i) ?_ 0 ⟨Nat.zero_le _, rfl⟩
    intro i hi Kn hk
    rw [r_slices_EqualFunc__implThing_4 xs ys xs.length i Kn K]
    by_cases hlt : i < ys.length
    · have hlx : i < xs.length := by omega
      simp only [d_lt hlx, d_0, cond_true, Int.toNat_natCast, get_lt hlt, get_lt hlx]
      by_cases he : xs[i]'hlx = ys[i]'hlt
      · simp only [he, beq_self_eq_true, Bool.not_true, cond_false]
        rw [i64_of (by omega) (by omega)]
        refine hk (i + 1) ⟨hlt, ?_⟩ (by omega)
        rw [take_one hlx, take_one hlt, hi.2, he]
      · have hb : (xs[i]'hlx == ys[i]'hlt) = false := beq_eq_false_iff_ne.2 he
        simp only [hb, Bool.not_false, cond_true]
        have hne : (xs == ys) = false := beq_eq_false_iff_ne.2 fun e => he (by simp only [e])
        rw [hne] at h; exact h
    · have hlx : ¬ i < xs.length := by omega
      simp only [d_nlt hlx, cond_false]
      have : xs = ys := by
        have := hi.2
        rwa [List.take_of_length_le (by omega), List.take_of_length_le (by omega)] at this
      rw [this, beq_self_eq_true] at h; exact h
  · have : (xs.length != ys.length) = true := by simp [hl]
    simp only [this, cond_true]
    have hne : (xs == ys) = false := beq_eq_false_iff_ne.2 fun e => hl (by rw [e])
    rw [hne] at h; exact h

/-! impl.SameScene -/
noncomputable def c_impl_SameScene : Ctx := mkC Try.prog tyT [(11, s_impl_ValidScene), (30, s_slices_EqualFunc__implThing), (31, s_impl_sameThing)] [] [] 18 (fun _ => none) 0
theorem w_impl_SameScene (a b : List ThingD) (K : V → Heap → Prop) : wpFn c_impl_SameScene Try.f16 (encAs [.agg (.slice tT), .agg (.slice tT)] (a, b, ())) [] K =
  cond (sceneB a)
    (cond (sceneB b)
      (K (.bool (a == b)) [])
      (K (.bool false) []))
    (K (.bool false) []) := by kernel_rfl
noncomputable def s_impl_SameScene : Sm := semT [.agg (.slice tT), .agg (.slice tT)] fun x => match x with | (a, b, _) => .bool (sceneB a && (sceneB b && a == b))
theorem ok_impl_SameScene : FnOk Try.prog 16 s_impl_SameScene := fnOk_typed (fnOk_runC (C := c_impl_SameScene) rfl mixed (.cons ok_impl_ValidScene (.cons ok_slices_EqualFunc__implThing (.cons ok_impl_sameThing .nil))) .nil .nil Try.func16 (by kernel_rfl)) fun (x : ((List ThingD) × (List ThingD) × Unit)) wf K h => by
  obtain ⟨a, b, ⟨⟩⟩ := x
  replace h : K (.bool (sceneB a && (sceneB b && a == b))) [] := h
  rw [w_impl_SameScene a b K]
  revert h
  cases sceneB a <;> cases sceneB b <;> exact id

/-! spec.SameScene -/
noncomputable def a_spec_SameScene : Nat → Option Ann := fun n => bif Nat.beq n 4 then some ⟨[2,3,5],2⟩ else none
noncomputable def c_spec_SameScene : Ctx := mkC Try.prog tyT [(22, s_spec_l10Is), (28, s_spec_SameShape), (29, s_spec_l10Same)] [] [] 71 a_spec_SameScene 0
noncomputable def fr_spec_SameScene_4 (m n : List ThingD) (i : Int) : Fr := [(2, .ptr 0 0), (3, .ptr 1 0), (5, .int .i64 i)]
noncomputable def hp_spec_SameScene_4 (m n : List ThingD) (i : Int) : Heap := [.box [.vec tT m], .box [.vec tT n]]
theorem r_spec_SameScene_4 (m n : List ThingD) (i : Int) (Kn : Fr → Heap → Prop) (K : V → Heap → Prop) : round c_spec_SameScene ⟨[2,3,5],2⟩ (lb c_spec_SameScene 4 Try.f15) (fr_spec_SameScene_4 m n i) (hp_spec_SameScene_4 m n i) Kn (lk c_spec_SameScene 4 Try.f15 [] K) =
  cond (decide (i < (↑(List.length m) : Int)))
    (cond (decide (0 ≤ i))
      ((match m[Int.toNat i]? with
        | some y0 => cond (decide (0 ≤ i))
          ((match n[Int.toNat i]? with
            | some y1 => cond (!bytesEq (Prod.fst y0) (Prod.fst y1))
              (K (.bool false) [])
              (cond (!Prod.fst (Prod.snd y0) == Prod.fst (Prod.snd y1))
                (K (.bool false) [])
                (cond (!Prod.snd (Prod.snd y0) == Prod.snd (Prod.snd y1))
                  (K (.bool false) [])
                  (Kn [(2, (.ptr 0 0)), (3, (.ptr 1 0)), (5, (.int .i64 (IntKind.wrap IntKind.i64 (i + 1))))] [(.box [(.vec (.pair .str (.pair (.slice (.pair (.int .i64) (.pair (.int .i64) (.pair (.int .i64) (.slice (.float .f32)))))) (.slice (.pair (.int .i64) (.pair (.float .f32) (.pair (.float .f32) (.float .f32))))))) (m))]), (.box [(.vec (.pair .str (.pair (.slice (.pair (.int .i64) (.pair (.int .i64) (.pair (.int .i64) (.slice (.float .f32)))))) (.slice (.pair (.int .i64) (.pair (.float .f32) (.pair (.float .f32) (.float .f32))))))) (n))])])))
            | none => False))
          (False)
        | none => False))
      (False))
    (K (.bool true) []) := by kernel_rfl
theorem w_spec_SameScene (m n : List ThingD) (K : V → Heap → Prop) : wpFn c_spec_SameScene Try.f15 (encAs [.agg (.slice tT), .agg (.slice tT)] (m, n, ())) [] K =
  cond (!sceneB m)
    (K (.bool false) [])
    (cond (!sceneB n)
      (K (.bool false) [])
      (cond ((↑(List.length m) : Int) != (↑(List.length n) : Int))
        (K (.bool false) [])
        (LoopE c_spec_SameScene ⟨[2, 3, 5], 2⟩ (lb c_spec_SameScene 4 Try.f15) [(2, (.ptr 0 0)), (3, (.ptr 1 0)), (5, (.int .i64 0))] [(.box [(.vec (.pair .str (.pair (.slice (.pair (.int .i64) (.pair (.int .i64) (.pair (.int .i64) (.slice (.float .f32)))))) (.slice (.pair (.int .i64) (.pair (.float .f32) (.pair (.float .f32) (.float .f32))))))) (m))]), (.box [(.vec (.pair .str (.pair (.slice (.pair (.int .i64) (.pair (.int .i64) (.pair (.int .i64) (.slice (.float .f32)))))) (.slice (.pair (.int .i64) (.pair (.float .f32) (.pair (.float .f32) (.float .f32))))))) (n))])] (lk c_spec_SameScene 4 Try.f15 [] K)))) := by kernel_rfl
noncomputable def s_spec_SameScene : Sm := semT [.agg (.slice tT), .agg (.slice tT)] fun x => match x with | (m, n, _) => .bool (sceneB m && (sceneB n && m == n))
theorem ok_spec_SameScene : FnOk Try.prog 15 s_spec_SameScene := fnOk_typed (fnOk_runC (C := c_spec_SameScene) rfl mixed (.cons ok_spec_l10Is (.cons ok_spec_SameShape (.cons ok_spec_l10Same .nil))) .nil .nil Try.func15 (by kernel_rfl)) fun (x : ((List ThingD) × (List ThingD) × Unit)) wf K h => by
  obtain ⟨m, n, ⟨⟩⟩ := x
  replace h : K (.bool (sceneB m && (sceneB n && m == n))) [] := h
  rw [w_spec_SameScene m n K]
  obtain ⟨⟨wl, _⟩, _⟩ := wf
  have wl : m.length ≤ 9223372036854775807 := wl
  cases hm : sceneB m with
  | false => rw [hm] at h; exact h
  | true =>
  rw [hm, Bool.true_and] at h
  simp only [Bool.not_true, cond_false]
  cases hn : sceneB n with
  | false => rw [hn] at h; exact h
  | true =>
  rw [hn, Bool.true_and] at h
  simp only [Bool.not_true, cond_false]
  rw [bne_cast]
  by_cases hl : m.length = n.length
  · rw [show (m.length != n.length) = false by rw [hl]; exact bne_self_eq_false _]
    simp only [cond_false]
    refine loop_run (σ := Nat) (fun i => fr_spec_SameScene_4 m n i) (fun i => hp_spec_SameScene_4 m n i) (fun i => i ≤ n.length ∧ m.take i = n.take i) (fun i => n.length - i) ?_ 0 ⟨Nat.zero_le _, rfl⟩
    intro i hi Kn hk
    rw [r_spec_SameScene_4 m n i Kn K]
    by_cases hlt : i < n.length
    · have hlx : i < m.length := by omega
      simp only [d_lt hlx, d_0, cond_true, Int.toNat_natCast, get_lt hlt, get_lt hlx]
      rw [i64_of (n := (i : Int) + 1) (by omega) (by omega)]
      have next : m[i]'hlx = n[i]'hlt → Kn (fr_spec_SameScene_4 m n ((i : Int) + 1)) (hp_spec_SameScene_4 m n i) := fun e =>
        hk (i + 1) ⟨hlt, by rw [take_one hlx, take_one hlt, hi.2, e]⟩ (by omega)
      have no : m[i]'hlx ≠ n[i]'hlt → K (.bool false) [] := fun he => by
        rw [beq_eq_false_iff_ne.2 fun e => he (by simp only [e])] at h
        exact h
      generalize m[i]'hlx = x at *
      generalize n[i]'hlt = y at *
      obtain ⟨k, a, b⟩ := x
      obtain ⟨k', a', b'⟩ := y
      simp only [bytesEq]
      by_cases h1 : k = k'
      · subst h1
        simp only [beq_self_eq_true, bne_self_eq_false, Bool.not_true, cond_false]
        by_cases h2 : a = a'
        · subst h2
          simp only [beq_self_eq_true, Bool.not_true, cond_false]
          by_cases h3 : b = b'
          · subst h3
            simp only [beq_self_eq_true, Bool.not_true, cond_false]
            exact next rfl
          · rw [show (b == b') = false from beq_eq_false_iff_ne.2 h3]
            exact no fun e => h3 (by injection e with _ e; injection e)
        · rw [show (a == a') = false from beq_eq_false_iff_ne.2 h2]
          exact no fun e => h2 (by injection e with _ e; injection e)
      · rw [show (k == k') = false from beq_eq_false_iff_ne.2 h1]
        exact no fun e => h1 (by injection e)
    · have hlx : ¬ i < m.length := by omega
      simp only [d_nlt hlx, cond_false]
      have e : m = n := by
        have := hi.2
        rwa [List.take_of_length_le (by omega), List.take_of_length_le (by omega)] at this
      rw [e, beq_self_eq_true] at h
      exact h
  · rw [show (m.length != n.length) = true by simp [hl]]
    rw [beq_eq_false_iff_ne.2 fun e => hl (by rw [e])] at h
    exact h

/-! laws.FnExactSameScene -/
noncomputable def c_laws_FnExactSameScene : Ctx := mkC Try.prog tyT [(8, s_laws_szScene), (10, s_laws_toScene), (15, s_spec_SameScene), (16, s_impl_SameScene), (12, s_laws_eqScene)] [] [] 45 (fun _ => none) 0
theorem w_laws_FnExactSameScene (s t : List ThingD) (K : V → Heap → Prop) : wpFn c_laws_FnExactSameScene Try.f5 (encAs [.agg (.slice tT), .agg (.slice tT)] (s, t, ())) [] K =
  cond (decide (szV 1048576 (wScene s) < 0))
    (K (.bool true) [])
    (cond (decide (szV 1048576 (wScene s) ≤ 1048576) && decide (0 ≤ szV 1048576 (wScene s)))
      (cond (decide (szV (szV 1048576 (wScene s)) (wScene t) < 0))
        (K (.bool true) [])
        (cond (fitC s)
          (cond (fitC t)
            (cond (fitC s)
              (cond (fitC t)
                (cond ((sceneB s && (sceneB t && s == t)) != (sceneB s && (sceneB t && s == t)))
                  (K (.bool false) [])
                  (cond (fitC s)
                    (cond (s == s)
                      (cond (fitC t)
                        (cond (t == t)
                          (K (.bool true) [])
                          (False))
                        (False))
                      (False))
                    (False)))
                (False))
              (False))
            (False))
          (False)))
      (False)) := by kernel_rfl
noncomputable def s_laws_FnExactSameScene : Sm := semT [.agg (.slice tT), .agg (.slice tT)] fun x => match x with | (s, t, _) => .bool true
theorem ok_laws_FnExactSameScene : FnOk Try.prog 5 s_laws_FnExactSameScene := fnOk_typed (fnOk_runC (C := c_laws_FnExactSameScene) rfl mixed (.cons ok_laws_szScene (.cons ok_laws_toScene (.cons ok_spec_SameScene (.cons ok_impl_SameScene (.cons ok_laws_eqScene .nil))))) .nil .nil Try.func5 (by kernel_rfl)) fun (x : ((List ThingD) × (List ThingD) × Unit)) wf K h => by
  obtain ⟨s, t, ⟨⟩⟩ := x
  replace h : K (.bool true) [] := h
  rw [w_laws_FnExactSameScene s t K]
  by_cases h1 : (1048576 : Int) - (wScene s : Int) < 0
  · simp only [szV_no h1]
    exact h
  · have e1 : szV 1048576 (wScene s) = 1048576 - wScene s := szV_ok (by omega)
    have hfit : fitC s = true := fitC_of (by omega)
    simp only [e1, d_f h1, cond_false]
    rw [d_t (show (1048576 : Int) - (wScene s : Int) ≤ 1048576 by omega), d_t (show 0 ≤ (1048576 : Int) - (wScene s : Int) by omega)]
    simp only [Bool.and_self, cond_true]
    by_cases h2 : (1048576 : Int) - (wScene s : Int) - (wScene t : Int) < 0
    · simp only [szV_no h2]
      exact h
    · have e2 : szV (1048576 - (wScene s : Int)) (wScene t) = 1048576 - wScene s - wScene t := szV_ok (by omega)
      have hfit2 : fitC t = true := fitC_of (by omega)
      simp only [e2, d_f h2, cond_false, hfit, hfit2, cond_true, bne_self_eq_false, beq_self_eq_true]
      exact h

end Go.Proofs.Ythleanlnjnlnmaa
