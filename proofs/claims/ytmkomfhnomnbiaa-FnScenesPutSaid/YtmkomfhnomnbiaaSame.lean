/- Scenes: equality as the program and the reference tell it. -/
import Derived.Test.YtmkomfhnomnbiaaScene
set_option linter.unusedVariables false
set_option linter.unusedSimpArgs false
set_option maxRecDepth 100000
namespace Go.Proofs.Ytmkomfhnomnbiaa
open Go.Ev

/-! impl.sameNode -/
noncomputable def c_impl_sameNode : Ctx := mkC Try.prog tyT [(39, s_impl_sameList)] [] [] 31 (fun _ => none) 0
theorem w_impl_sameNode (k a b : Int) (xs : List Nat) (k' a' b' : Int) (xs' : List Nat) (K : V → Heap → Prop) : wpFn c_impl_sameNode Try.f23 (encAs [.agg tN, .agg tN] ((k, a, b, xs), (k', a', b', xs'), ())) [] K =
  cond (k == k')
    (cond (a == a')
      (cond (b == b')
        (K (.bool (xs == xs')) [])
        (K (.bool false) []))
      (K (.bool false) []))
    (K (.bool false) []) := by kernel_rfl
noncomputable def s_impl_sameNode : Sm := semT [.agg tN, .agg tN] fun x => match x with | ((k, a, b, xs), (k', a', b', xs'), _) => .bool ((k, a, b, xs) == (k', a', b', xs'))
theorem ok_impl_sameNode : FnOk Try.prog 23 s_impl_sameNode := fnOk_typed (fnOk_runC (C := c_impl_sameNode) rfl mixed (.cons ok_impl_sameList .nil) .nil .nil Try.func23 (by kernel_rfl)) fun (x : (((Int) × (Int) × (Int) × (List Nat)) × ((Int) × (Int) × (Int) × (List Nat)) × Unit)) wf K h => by
  obtain ⟨⟨k, a, b, xs⟩, ⟨k', a', b', xs'⟩, ⟨⟩⟩ := x
  replace h : K (.bool ((k, a, b, xs) == (k', a', b', xs'))) [] := h
  rw [w_impl_sameNode k a b xs k' a' b' xs' K]
  rw [show ((k, a, b, xs) == (k', a', b', xs')) = (k == k' && (a == a' && (b == b' && xs == xs'))) from rfl] at h
  revert h
  cases k == k' <;> cases a == a' <;> cases b == b' <;> exact id

/-! slices.EqualFunc[[]impl.Node,[]impl.Node,impl.Node,impl.Node] -/
noncomputable def a_slices_EqualFunc__implNode : Nat → Option Ann := fun n => bif Nat.beq n 4 then some ⟨[1,2,15,16,17],0,false⟩ else none
noncomputable def c_slices_EqualFunc__implNode : Ctx := mkC Try.prog tyT [(23, s_impl_sameNode)] [] [] 32 a_slices_EqualFunc__implNode 0
noncomputable def fr_slices_EqualFunc__implNode_4 (xs ys : List (NodeD)) (n i : Int) : Fr := [(1, .vec (tN) ys), (2, .fn 23 []), (15, .vec (tN) xs), (16, .int .i64 n), (17, .int .i64 i)]
theorem r_slices_EqualFunc__implNode_4 (xs ys : List (NodeD)) (n i : Int) (Kn : Fr → Heap → Prop) (K : V → Heap → Prop) : round c_slices_EqualFunc__implNode ⟨[1,2,15,16,17],0,false⟩ (lb c_slices_EqualFunc__implNode 4 Try.f22) (fr_slices_EqualFunc__implNode_4 xs ys n i) [] Kn (lk c_slices_EqualFunc__implNode 4 Try.f22 [] K) =
  cond (decide (i < n))
    (cond (decide (0 ≤ i))
      ((match xs[Int.toNat i]? with
        | some y0 => cond (decide (0 ≤ i))
          ((match ys[Int.toNat i]? with
            | some y1 => cond (!y0 == y1)
              (K (.bool false) [])
              (Kn [(1, (.vec tN (ys))), (2, (.fn 23 [])), (15, (.vec tN (xs))), (16, (.int .i64 (n))), (17, (.int .i64 (IntKind.wrap IntKind.i64 (i + 1))))] [])
            | none => False))
          (False)
        | none => False))
      (False))
    (K (.bool true) []) := by kernel_rfl
theorem w_slices_EqualFunc__implNode (xs ys : List (NodeD)) (K : V → Heap → Prop) : wpFn c_slices_EqualFunc__implNode Try.f22 (encAs [.cell (.slice (tN)), .cell (.slice (tN)), .fn 23] (xs, ys, (), ())) [] K =
  cond ((↑(List.length xs) : Int) != (↑(List.length ys) : Int))
    (K (.bool false) [])
    (LoopE c_slices_EqualFunc__implNode ⟨[1, 2, 15, 16, 17], 0, false⟩ (lb c_slices_EqualFunc__implNode 4 Try.f22) [(1, (.vec tN (ys))), (2, (.fn 23 [])), (15, (.vec tN (xs))), (16, (.int .i64 ((↑(List.length xs) : Int)))), (17, (.int .i64 0))] [] (lk c_slices_EqualFunc__implNode 4 Try.f22 [] K)) := by kernel_rfl
noncomputable def s_slices_EqualFunc__implNode : Sm := semT [.cell (.slice (tN)), .cell (.slice (tN)), .fn 23] fun x => match x with | (xs, ys, _, _) => .bool (xs == ys)
theorem ok_slices_EqualFunc__implNode : FnOk Try.prog 22 s_slices_EqualFunc__implNode := fnOk_typed (fnOk_runC (C := c_slices_EqualFunc__implNode) rfl mixed (.cons ok_impl_sameNode .nil) .nil .nil Try.func22 (by kernel_rfl)) fun (x : ((List (NodeD)) × (List (NodeD)) × Unit × Unit)) wf K h => by
  obtain ⟨xs, ys, ⟨⟩, ⟨⟩⟩ := x
  replace h : K (.bool (xs == ys)) [] := h
  rw [w_slices_EqualFunc__implNode xs ys K]
  obtain ⟨⟨wl, _⟩, _⟩ := wf
  have wl : xs.length ≤ 9223372036854775807 := wl
  rw [bne_cast]
  by_cases hl : xs.length = ys.length
  · rw [show (xs.length != ys.length) = false by rw [hl]; exact bne_self_eq_false _]
    simp only [cond_false]
    refine loop_run (σ := Nat) (fun i => fr_slices_EqualFunc__implNode_4 xs ys xs.length i) (fun _ => []) (fun i => i ≤ ys.length ∧ xs.take i = ys.take i) (fun i => ys.length - i) ?_ 0 ⟨Nat.zero_le _, rfl⟩
    intro i hi Kn hk
    rw [r_slices_EqualFunc__implNode_4 xs ys xs.length i Kn K]
    by_cases hlt : i < ys.length
    · have hlx : i < xs.length := by omega
      simp only [d_lt hlx, d_0, cond_true, Int.toNat_natCast, get_lt hlt, get_lt hlx]
      by_cases he : xs[i]'hlx = ys[i]'hlt
      · simp only [he, beq_self_eq_true, Bool.not_true, cond_false]
        rw [i64_of (by omega) (by omega)]
        refine hk (i + 1) ⟨hlt, ?_⟩ (by omega)
        rw [take_one hlx, take_one hlt, hi.2, he]
      · have hb : (xs[i]'hlx == ys[i]'hlt) = false := beq_eq_false_iff_ne.2 he
        simp only [hb, Bool.not_false, cond_true]
        have hne : (xs == ys) = false := beq_eq_false_iff_ne.2 fun e => he (by simp only [e])
        rw [hne] at h; exact h
    · have hlx : ¬ i < xs.length := by omega
      simp only [d_nlt hlx, cond_false]
      have : xs = ys := by
        have := hi.2
        rwa [List.take_of_length_le (by omega), List.take_of_length_le (by omega)] at this
      rw [this, beq_self_eq_true] at h; exact h
  · have : (xs.length != ys.length) = true := by simp [hl]
    simp only [this, cond_true]
    have hne : (xs == ys) = false := beq_eq_false_iff_ne.2 fun e => hl (by rw [e])
    rw [hne] at h; exact h

/-! impl.SameShape -/
noncomputable def c_impl_SameShape : Ctx := mkC Try.prog tyT [(22, s_slices_EqualFunc__implNode), (23, s_impl_sameNode)] [] [] 10 (fun _ => none) 0
theorem w_impl_SameShape (m n : ShapeD) (K : V → Heap → Prop) : wpFn c_impl_SameShape Try.f12 (encAs [.agg tS, .agg tS] (m, n, ())) [] K =
  K (.bool (m == n)) [] := by kernel_rfl
noncomputable def s_impl_SameShape : Sm := semT [.agg tS, .agg tS] fun x => match x with | (m, n, _) => .bool (m == n)
theorem ok_impl_SameShape : FnOk Try.prog 12 s_impl_SameShape := fnOk_typed (fnOk_runC (C := c_impl_SameShape) rfl mixed (.cons ok_slices_EqualFunc__implNode (.cons ok_impl_sameNode .nil)) .nil .nil Try.func12 (by kernel_rfl)) fun (x : ((ShapeD) × (ShapeD) × Unit)) wf K h => by
  obtain ⟨m, n, ⟨⟩⟩ := x
  replace h : K (.bool (m == n)) [] := h
  rw [w_impl_SameShape m n K]
  exact h










end Go.Proofs.Ytmkomfhnomnbiaa
