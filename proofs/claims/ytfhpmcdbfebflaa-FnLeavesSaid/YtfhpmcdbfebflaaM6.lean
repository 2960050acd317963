/- Merged texts: Part Kept PrtP Lvs. -/
import Derived.Test.YtfhpmcdbfebflaaM5
/- Parts, depths and leaves of shapes: walks. -/
set_option linter.unusedVariables false
set_option linter.unusedSimpArgs false
set_option maxRecDepth 100000
namespace Go.Proofs.Ytfhpmcdbfebflaa
open Go.Ev Go.Ev.Fl

/-! impl.sameNode -/
noncomputable def c_impl_sameNode : Ctx := mkC Try.prog tyT [(125, s_impl_sameList)] [] [] 31 (fun _ => none) 0
theorem w_impl_sameNode (k a b : Int) (xs : List Nat) (k' a' b' : Int) (xs' : List Nat) (K : V → Heap → Prop) : wpFn c_impl_sameNode Try.f91 (encAs [.agg tN, .agg tN] ((k, a, b, xs), (k', a', b', xs'), ())) [] K =
  cond (k == k')
    (cond (a == a')
      (cond (b == b')
        (K (.bool (xs == xs')) [])
        (K (.bool false) []))
      (K (.bool false) []))
    (K (.bool false) []) := by kernel_rfl
noncomputable def s_impl_sameNode : Sm := semT [.agg tN, .agg tN] fun x => match x with | ((k, a, b, xs), (k', a', b', xs'), _) => .bool ((k, a, b, xs) == (k', a', b', xs'))
theorem ok_impl_sameNode : FnOk Try.prog 91 s_impl_sameNode := fnOk_typed (fnOk_runC (C := c_impl_sameNode) rfl mixed (.cons ok_impl_sameList .nil) .nil .nil Try.func91 (by kernel_rfl)) fun (x : (((Int) × (Int) × (Int) × (List Nat)) × ((Int) × (Int) × (Int) × (List Nat)) × Unit)) wf K h => by
  obtain ⟨⟨k, a, b, xs⟩, ⟨k', a', b', xs'⟩, ⟨⟩⟩ := x
  replace h : K (.bool ((k, a, b, xs) == (k', a', b', xs'))) [] := h
  rw [w_impl_sameNode k a b xs k' a' b' xs' K]
  rw [show ((k, a, b, xs) == (k', a', b', xs')) = (k == k' && (a == a' && (b == b' && xs == xs'))) from rfl] at h
  revert h
  cases k == k' <;> cases a == a' <;> cases b == b' <;> exact id

/-! slices.EqualFunc[[]impl.Node,[]impl.Node,impl.Node,impl.Node] -/
noncomputable def a_slices_EqualFunc__implNode : Nat → Option Ann := fun n => bif Nat.beq n 4 then some ⟨[1,2,15,16,17],0,false⟩ else none
noncomputable def c_slices_EqualFunc__implNode : Ctx := mkC Try.prog tyT [(91, s_impl_sameNode)] [] [] 32 a_slices_EqualFunc__implNode 0
noncomputable def fr_slices_EqualFunc__implNode_4 (xs ys : List (NodeD)) (n i : Int) : Fr := [(1, .vec (tN) ys), (2, .fn 91 []), (15, .vec (tN) xs), (16, .int .i64 n), (17, .int .i64 i)]
theorem r_slices_EqualFunc__implNode_4 (xs ys : List (NodeD)) (n i : Int) (Kn : Fr → Heap → Prop) (K : V → Heap → Prop) : round c_slices_EqualFunc__implNode ⟨[1,2,15,16,17],0,false⟩ (lb c_slices_EqualFunc__implNode 4 Try.f90) (fr_slices_EqualFunc__implNode_4 xs ys n i) [] Kn (lk c_slices_EqualFunc__implNode 4 Try.f90 [] K) =
  cond (decide (i < n))
    (cond (decide (0 ≤ i))
      ((match xs[Int.toNat i]? with
        | some y0 => cond (decide (0 ≤ i))
          ((match ys[Int.toNat i]? with
            | some y1 => cond (!y0 == y1)
              (K (.bool false) [])
              (Kn [(1, (.vec tN (ys))), (2, (.fn 91 [])), (15, (.vec tN (xs))), (16, (.int .i64 (n))), (17, (.int .i64 (IntKind.wrap IntKind.i64 (i + 1))))] [])
            | none => False))
          (False)
        | none => False))
      (False))
    (K (.bool true) []) := by kernel_rfl
theorem w_slices_EqualFunc__implNode (xs ys : List (NodeD)) (K : V → Heap → Prop) : wpFn c_slices_EqualFunc__implNode Try.f90 (encAs [.cell (.slice (tN)), .cell (.slice (tN)), .fn 91] (xs, ys, (), ())) [] K =
  cond ((↑(List.length xs) : Int) != (↑(List.length ys) : Int))
    (K (.bool false) [])
    (LoopE c_slices_EqualFunc__implNode ⟨[1, 2, 15, 16, 17], 0, false⟩ (lb c_slices_EqualFunc__implNode 4 Try.f90) [(1, (.vec tN (ys))), (2, (.fn 91 [])), (15, (.vec tN (xs))), (16, (.int .i64 ((↑(List.length xs) : Int)))), (17, (.int .i64 0))] [] (lk c_slices_EqualFunc__implNode 4 Try.f90 [] K)) := by kernel_rfl
noncomputable def s_slices_EqualFunc__implNode : Sm := semT [.cell (.slice (tN)), .cell (.slice (tN)), .fn 91] fun x => match x with | (xs, ys, _, _) => .bool (xs == ys)
theorem ok_slices_EqualFunc__implNode : FnOk Try.prog 90 s_slices_EqualFunc__implNode := fnOk_typed (fnOk_runC (C := c_slices_EqualFunc__implNode) rfl mixed (.cons ok_impl_sameNode .nil) .nil .nil Try.func90 (by kernel_rfl)) fun (x : ((List (NodeD)) × (List (NodeD)) × Unit × Unit)) wf K h => by
  obtain ⟨xs, ys, ⟨⟩, ⟨⟩⟩ := x
  replace h : K (.bool (xs == ys)) [] := h
  rw [w_slices_EqualFunc__implNode xs ys K]
  obtain ⟨⟨wl, _⟩, _⟩ := wf
  have wl : xs.length ≤ 9223372036854775807 := wl
  rw [bne_cast]
  by_cases hl : xs.length = ys.length
  · rw [show (xs.length != ys.length) = false by rw [hl]; exact bne_self_eq_false _]
    simp only [cond_false]
    refine loop_run (σ := Nat) (fun i => fr_slices_EqualFunc__implNode_4 xs ys xs.length i) (fun _ => []) (fun i => i ≤ ys.length ∧ xs.take i = ys.take i) (fun i => ys.length - i) ?_ 0 ⟨Nat.zero_le _, rfl⟩
    intro i hi Kn hk
    rw [r_slices_EqualFunc__implNode_4 xs ys xs.length i Kn K]
    by_cases hlt : i < ys.length
    · have hlx : i < xs.length := by omega
      simp only [d_lt hlx, d_0, cond_true, Int.toNat_natCast, get_lt hlt, get_lt hlx]
      by_cases he : xs[i]'hlx = ys[i]'hlt
      · simp only [he, beq_self_eq_true, Bool.not_true, cond_false]
        rw [i64_of (by omega) (by omega)]
        refine hk (i + 1) ⟨hlt, ?_⟩ (by omega)
        rw [take_one hlx, take_one hlt, hi.2, he]
      · have hb : (xs[i]'hlx == ys[i]'hlt) = false := beq_eq_false_iff_ne.2 he
        simp only [hb, Bool.not_false, cond_true]
        have hne : (xs == ys) = false := beq_eq_false_iff_ne.2 fun e => he (by simp only [e])
        rw [hne] at h; exact h
    · have hlx : ¬ i < xs.length := by omega
      simp only [d_nlt hlx, cond_false]
      have : xs = ys := by
        have := hi.2
        rwa [List.take_of_length_le (by omega), List.take_of_length_le (by omega)] at this
      rw [this, beq_self_eq_true] at h; exact h
  · have : (xs.length != ys.length) = true := by simp [hl]
    simp only [this, cond_true]
    have hne : (xs == ys) = false := beq_eq_false_iff_ne.2 fun e => hl (by rw [e])
    rw [hne] at h; exact h

/-! impl.SameShape -/
noncomputable def c_impl_SameShape : Ctx := mkC Try.prog tyT [(90, s_slices_EqualFunc__implNode), (91, s_impl_sameNode)] [] [] 10 (fun _ => none) 0
theorem w_impl_SameShape (m n : ShapeD) (K : V → Heap → Prop) : wpFn c_impl_SameShape Try.f32 (encAs [.agg tS, .agg tS] (m, n, ())) [] K =
  K (.bool (m == n)) [] := by kernel_rfl
noncomputable def s_impl_SameShape : Sm := semT [.agg tS, .agg tS] fun x => match x with | (m, n, _) => .bool (m == n)
theorem ok_impl_SameShape : FnOk Try.prog 32 s_impl_SameShape := fnOk_typed (fnOk_runC (C := c_impl_SameShape) rfl mixed (.cons ok_slices_EqualFunc__implNode (.cons ok_impl_sameNode .nil)) .nil .nil Try.func32 (by kernel_rfl)) fun (x : ((ShapeD) × (ShapeD) × Unit)) wf K h => by
  obtain ⟨m, n, ⟨⟩⟩ := x
  replace h : K (.bool (m == n)) [] := h
  rw [w_impl_SameShape m n K]
  exact h

theorem nodes_at {ns : ShapeD} (h : nodesB ns = true) {i : Int} (h0 : 0 ≤ i) (h1 : i < ns.length) : ns[i.toNat]? = some (nodeAt ns i) ∧ nodeB i (nodeAt ns i) = true := by
  have hl : i.toNat < ns.length := by omega
  have e : ns[i.toNat]? = some (ns[i.toNat]'hl) := get_lt hl
  have en : nodeAt ns i = ns[i.toNat]'hl := by unfold nodeAt; rw [e]; rfl
  refine ⟨by rw [e, en], ?_⟩
  have := List.all_eq_true.1 h i.toNat (by simpa using hl)
  rw [e] at this
  simp only at this
  rw [en]
  rwa [Int.toNat_of_nonneg h0] at this
/-! leaves -/
def leafIs (ns : ShapeD) (i : Nat) : Bool := inR (nodeAt ns i).1 0 4
def leafL (ns : ShapeD) : Nat → List Int
  | 0 => []
  | i + 1 => bif leafIs ns i then leafL ns i ++ [(i : Int)] else leafL ns i
theorem leafL_len (ns : ShapeD) (i : Nat) : (leafL ns i).length ≤ i := by
  induction i with
  | zero => simp [leafL]
  | succ i ih =>
    unfold leafL
    cases leafIs ns i with
    | true => simp only [cond_true, List.length_append, List.length_singleton]; omega
    | false => simp only [cond_false]; omega

/-! impl.LeavesOf -/
noncomputable def a_impl_LeavesOf : Nat → Option Ann := fun n => bif Nat.beq n 5 then some ⟨[1,4,12,13],2,false⟩ else none
noncomputable def c_impl_LeavesOf : Ctx := mkC Try.prog tyT [(33, s_impl_ValidShape), (83, s_impl_childrenOf)] [] [] 29 a_impl_LeavesOf 0
noncomputable def fr_impl_LeavesOf_5 (ns : ShapeD) (out : List Int) (n i : Int) : Fr := [(1, .ptr 0 0), (4, .obj 1 0), (12, .int .i64 n), (13, .int .i64 i)]
noncomputable def hp_impl_LeavesOf_5 (ns : ShapeD) (out : List Int) (n i : Int) : Heap := [.box [.vec tN ns], .sl 0 tI out]
theorem r_impl_LeavesOf_5 (ns : ShapeD) (out : List Int) (n i : Int) (Kn : Fr → Heap → Prop) (K : V → Heap → Prop) : round c_impl_LeavesOf ⟨[1,4,12,13],2,false⟩ (lb c_impl_LeavesOf 5 Try.f27) (fr_impl_LeavesOf_5 ns out n i) (hp_impl_LeavesOf_5 ns out n i) Kn (lk c_impl_LeavesOf 5 Try.f27 [] K) =
  cond (decide (i < n))
    (cond (decide (0 ≤ i))
      ((match ns[Int.toNat i]? with
        | some y0 => cond ((↑(List.length (kids (Prod.fst y0) (Prod.fst (Prod.snd y0)) (Prod.fst (Prod.snd (Prod.snd y0))))) : Int) == 0)
          (cond (decide ((List.length out + 1) * 8 ≤ 140737488355328))
            (Kn [(1, (.ptr 0 0)), (4, (.obj 1 0)), (12, (.int .i64 (n))), (13, (.int .i64 (IntKind.wrap IntKind.i64 (i + 1))))] [(.box [(.vec tN (ns))]), (.sl 0 (.int .i64) (out ++ [i]))])
            (False))
          (Kn [(1, (.ptr 0 0)), (4, (.obj 1 0)), (12, (.int .i64 (n))), (13, (.int .i64 (IntKind.wrap IntKind.i64 (i + 1))))] [(.box [(.vec tN (ns))]), (.sl 0 (.int .i64) (out))])
        | none => False))
      (False))
    (K (.tuple [(.vec (.int .i64) (out)), (.bool true)]) []) := by kernel_rfl
theorem w_impl_LeavesOf (ns : ShapeD) (K : V → Heap → Prop) : wpFn c_impl_LeavesOf Try.f27 (encAs [.agg tS] (ns, ())) [] K =
  cond (!validS ns)
    (K (.tuple [.nils, (.bool false)]) [])
    (LoopE c_impl_LeavesOf ⟨[1, 4, 12, 13], 2, false⟩ (lb c_impl_LeavesOf 5 Try.f27) [(1, (.ptr 0 0)), (4, (.obj 1 0)), (12, (.int .i64 ((↑(List.length ns) : Int)))), (13, (.int .i64 0))] [(.box [(.vec tN (ns))]), (.sl 0 (.int .i64) ([]))] (lk c_impl_LeavesOf 5 Try.f27 [] K)) := by kernel_rfl
noncomputable def s_impl_LeavesOf : Sm := semG [.agg tS] (fun x => match x with | (ns, _) => validS ns) fun x => match x with | (ns, _) => .tuple [.vec tI (leafL ns ns.length), .bool true]
theorem ok_impl_LeavesOf : FnOk Try.prog 27 s_impl_LeavesOf := fnOk_typedG (fnOk_runC (C := c_impl_LeavesOf) rfl mixed (.cons ok_impl_ValidShape (.cons ok_impl_childrenOf .nil)) .nil .nil Try.func27 (by kernel_rfl)) fun (x : ((ShapeD) × Unit)) wf hg K h => by
  obtain ⟨ns, ⟨⟩⟩ := x
  replace hg : (validS ns) = true := hg
  replace h : K (.tuple [.vec tI (leafL ns ns.length), .bool true]) [] := h
  rw [w_impl_LeavesOf ns K]
  obtain ⟨l1, l2⟩ := valid_leng hg
  have hn := valid_nodes hg
  rw [hg]
  simp only [Bool.not_true, cond_false]
  refine loop_run (σ := Nat) (fun i => fr_impl_LeavesOf_5 ns [] ns.length i) (fun i => hp_impl_LeavesOf_5 ns (leafL ns i) ns.length i) (fun i => i ≤ ns.length) (fun i => ns.length - i) ?_ 0 (Nat.zero_le _)
  intro i hi Kn hk
  rw [show fr_impl_LeavesOf_5 ns [] ns.length i = fr_impl_LeavesOf_5 ns (leafL ns i) ns.length i from rfl, r_impl_LeavesOf_5 ns (leafL ns i) ns.length i Kn K]
  have hle := leafL_len ns i
  by_cases hlt : i < ns.length
  · have next := hk (i + 1) hlt (by omega)
    have hs : leafL ns (i + 1) = bif leafIs ns i then leafL ns i ++ [(i : Int)] else leafL ns i := rfl
    rw [hs] at next
    obtain ⟨e, hb⟩ := nodes_at hn (i := (i : Int)) (by omega) (by omega)
    unfold leafIs at next
    simp only [d_lt hlt, d_0, e, cond_true]
    generalize nodeAt ns (i : Int) = nd at *
    obtain ⟨k, a, c, xs⟩ := nd
    have hk0 := nums_isK (nodeB_parts hb).1
    rw [i64_of (n := (i : Int) + 1) (by omega) (by omega), d_t (show ((leafL ns i).length + 1) * 8 ≤ 140737488355328 by omega)]
    rcases kind_cases a c hk0 with ⟨q1, q2, q3⟩ | ⟨q1, q2, q3⟩ | ⟨q1, q2, q3⟩ <;> rw [q3] <;> simp only [q1, cond_true, cond_false] at next <;> exact next
  · have : i = ns.length := by omega
    subst this
    rw [d_nlt hlt]
    exact h

/-! depths -/
theorem set_mid {α : Type} {xs ys : List α} {x y : α} {i : Nat} (h : i = xs.length) : (xs ++ x :: ys).set i y = xs ++ y :: ys := by
  subst h
  rw [List.set_append_right _ _ (Nat.le_refl _), Nat.sub_self]
  rfl
theorem get_mid {α : Type} {xs ys : List α} {x : α} {i : Nat} (h : i = xs.length) : (xs ++ x :: ys)[i]? = some x := by
  subst h
  rw [List.getElem?_append_right (Nat.le_refl _), Nat.sub_self]
  rfl
def dI (ds : List Int) (c : Int) : Int := (ds[c.toNat]?).getD 0
def dMax (ds cs : List Int) : Int := cs.foldl (fun m c => max m (dI ds c)) 0
def dpL (ns : ShapeD) : Nat → List Int
  | 0 => []
  | i + 1 => dpL ns i ++ [dMax (dpL ns i) (kidsN (nodeAt ns i)) + 1]
theorem dpL_len (ns : ShapeD) (i : Nat) : (dpL ns i).length = i := by
  induction i with
  | zero => rfl
  | succ i ih => simp [dpL, ih]
theorem max_bif (x y : Int) : max x y = bif decide (y > x) then y else x := by
  by_cases e : y > x
  · rw [d_t e]; simp only [cond_true]; omega
  · rw [d_f e]; simp only [cond_false]; omega
theorem dMax_range {ds : List Int} {B : Int} (h : 0 ≤ B ∧ ∀ x ∈ ds, 0 ≤ x ∧ x ≤ B) {cs : List Int} : 0 ≤ dMax ds cs ∧ dMax ds cs ≤ B := by
  have hd : ∀ c, 0 ≤ dI ds c ∧ dI ds c ≤ B := fun c => by
    unfold dI
    cases e : ds[c.toNat]? with
    | none => exact ⟨Int.le_refl _, h.1⟩
    | some x => exact h.2 x (List.mem_of_getElem? e)
  have go : ∀ (cs : List Int) (m : Int), 0 ≤ m ∧ m ≤ B → 0 ≤ cs.foldl (fun m c => max m (dI ds c)) m ∧ cs.foldl (fun m c => max m (dI ds c)) m ≤ B := by
    intro cs
    induction cs with
    | nil => intro m hm; exact hm
    | cons c cs ih => intro m hm; have := hd c; exact ih _ (by show 0 ≤ max m (dI ds c) ∧ max m (dI ds c) ≤ B; omega)
  exact go cs 0 ⟨Int.le_refl _, h.1⟩
theorem dpL_range (ns : ShapeD) : ∀ i : Nat, (0 : Int) ≤ (i : Int) ∧ ∀ x ∈ dpL ns i, 0 ≤ x ∧ x ≤ (i : Int)
  | 0 => ⟨Int.le_refl _, fun x hx => by cases hx⟩
  | i + 1 => by
    have ih := dpL_range ns i
    refine ⟨by omega, fun x hx => ?_⟩
    rcases List.mem_append.1 hx with h | h
    · have := ih.2 x h; omega
    · have := dMax_range ih (cs := kidsN (nodeAt ns i))
      rw [List.mem_singleton.1 h]
      omega
--B depV List (Int × Int × Int × List Nat) → Int
def depV (ns : ShapeD) : Int := dI (dpL ns ns.length) (ns.length - 1)

/-! impl.DepthOf -/
noncomputable def a_impl_DepthOf : Nat → Option Ann := fun n => bif Nat.beq n 5 then some ⟨[1,4,17,18],2,false⟩ else bif Nat.beq n 8 then some ⟨[1,4,5,17,18,25,26,27],2,false⟩ else none
noncomputable def c_impl_DepthOf : Ctx := mkC Try.prog tyT [(33, s_impl_ValidShape), (83, s_impl_childrenOf), (84, s_impl_Shape_last)] [] [] 55 a_impl_DepthOf 0 false [] false true
noncomputable def fr_impl_DepthOf_5 (ns : ShapeD) (ds : List Int) (n i : Int) : Fr := [(1, .ptr 0 0), (4, .obj 1 0), (17, .int .i64 n), (18, .int .i64 i)]
noncomputable def hp_impl_DepthOf_5 (ns : ShapeD) (ds : List Int) (n i : Int) : Heap := [.box [.vec tN ns], .sl 0 tI ds]
theorem r_impl_DepthOf_5 (ns : ShapeD) (ds : List Int) (n i : Int) (Kn : Fr → Heap → Prop) (K : V → Heap → Prop) : round c_impl_DepthOf ⟨[1,4,17,18],2,false⟩ (lb c_impl_DepthOf 5 Try.f28) (fr_impl_DepthOf_5 ns ds n i) (hp_impl_DepthOf_5 ns ds n i) Kn (lk c_impl_DepthOf 5 Try.f28 [] K) =
  cond (decide (i < n))
    (cond (decide (0 ≤ i))
      ((match ns[Int.toNat i]? with
        | some y0 => LoopE c_impl_DepthOf ⟨[1, 4, 5, 17, 18, 25, 26, 27], 2, false⟩ (pathB c_impl_DepthOf [5, 8] (bodyOf Try.f28)) [(1, (.ptr 0 0)), (4, (.obj 1 0)), (5, (.int .i64 (i))), (17, (.int .i64 (n))), (18, (.int .i64 (i))), (25, (.vec (.int .i64) (kids (Prod.fst y0) (Prod.fst (Prod.snd y0)) (Prod.fst (Prod.snd (Prod.snd y0)))))), (26, (.int .i64 ((↑(List.length (kids (Prod.fst y0) (Prod.fst (Prod.snd y0)) (Prod.fst (Prod.snd (Prod.snd y0))))) : Int)))), (27, (.int .i64 0))] [(.box [(.vec tN (ns))]), (.sl 0 (.int .i64) (ds))] (pathK c_impl_DepthOf [(5, ⟨[1,4,17,18],2,false⟩, Kn)] 8 (bodyOf Try.f28) (kFn c_impl_DepthOf Try.f28 [] K))
        | none => False))
      (False))
    (cond (decide (0 ≤ IntKind.wrap IntKind.i64 ((↑(List.length ns) : Int) - 1)) && Nat.blt (Int.toNat (IntKind.wrap IntKind.i64 ((↑(List.length ns) : Int) - 1))) (List.length ds))
      ((match ds[Int.toNat (IntKind.wrap IntKind.i64 ((↑(List.length ns) : Int) - 1))]? with
        | some x1 => K (.tuple [(.int .i64 (x1)), (.bool true)]) []
        | none => False))
      (False)) := by kernel_rfl
noncomputable def fr_impl_DepthOf_8 (ns : ShapeD) (ds : List Int) (p n i : Int) (cs : List Int) (m j : Int) : Fr := [(1, .ptr 0 0), (4, .obj 1 0), (5, .int .i64 p), (17, .int .i64 n), (18, .int .i64 i), (25, .vec tI cs), (26, .int .i64 m), (27, .int .i64 j)]
noncomputable def hp_impl_DepthOf_8 (ns : ShapeD) (ds : List Int) (p n i : Int) (cs : List Int) (m j : Int) : Heap := [.box [.vec tN ns], .sl 0 tI ds]
theorem r_impl_DepthOf_8 (ns : ShapeD) (ds : List Int) (p n i : Int) (cs : List Int) (m j : Int) (Kn5 : Fr → Heap → Prop) (Kn : Fr → Heap → Prop) (K : V → Heap → Prop) : round c_impl_DepthOf ⟨[1,4,5,17,18,25,26,27],2,false⟩ (pathB c_impl_DepthOf [5, 8] (bodyOf Try.f28)) (fr_impl_DepthOf_8 ns ds p n i cs m j) (hp_impl_DepthOf_8 ns ds p n i cs m j) Kn (pathK c_impl_DepthOf [(5, ⟨[1,4,17,18],2,false⟩, Kn5)] 8 (bodyOf Try.f28) (kFn c_impl_DepthOf Try.f28 [] K)) =
  cond (decide (j < m))
    (cond (decide (0 ≤ j))
      ((match cs[Int.toNat j]? with
        | some y0 => cond (decide (0 ≤ p) && Nat.blt (Int.toNat p) (List.length ds))
          ((match ds[Int.toNat p]? with
            | some x1 => cond (decide (0 ≤ y0) && Nat.blt (Int.toNat y0) (List.length ds))
              ((match ds[Int.toNat y0]? with
                | some x2 => cond (decide (0 ≤ p) && Nat.blt (Int.toNat p) (List.length ds))
                  ((match ds[Int.toNat p]? with
                    | some x3 => Kn [(1, (.ptr 0 0)), (4, (.obj 1 0)), (5, (.int .i64 (p))), (17, (.int .i64 (n))), (18, (.int .i64 (i))), (25, (.vec (.int .i64) (cs))), (26, (.int .i64 (m))), (27, (.int .i64 (IntKind.wrap IntKind.i64 (j + 1))))] [(.box [(.vec tN (ns))]), (.sl 0 (.int .i64) (List.set ds (Int.toNat p) (bif decide (x2 > x1) then x2 else x1)))]
                    | none => False))
                  (False)
                | none => False))
              (False)
            | none => False))
          (False)
        | none => False))
      (False))
    (cond (decide (0 ≤ p) && Nat.blt (Int.toNat p) (List.length ds))
      ((match ds[Int.toNat p]? with
        | some x4 => cond (decide (0 ≤ p) && Nat.blt (Int.toNat p) (List.length ds))
          ((match ds[Int.toNat p]? with
            | some x5 => Kn5 [(1, (.ptr 0 0)), (4, (.obj 1 0)), (17, (.int .i64 (n))), (18, (.int .i64 (IntKind.wrap IntKind.i64 (i + 1))))] [(.box [(.vec tN (ns))]), (.sl 0 (.int .i64) (List.set ds (Int.toNat p) (IntKind.wrap IntKind.i64 (x4 + 1))))]
            | none => False))
          (False)
        | none => False))
      (False)) := by kernel_rfl
theorem w_impl_DepthOf (ns : ShapeD) (K : V → Heap → Prop) : wpFn c_impl_DepthOf Try.f28 (encAs [.agg tS] (ns, ())) [] K =
  cond (!validS ns)
    (K (.tuple [(.int .i64 0), (.bool false)]) [])
    (cond (decide (0 ≤ (↑(List.length ns) : Int)) && (decide ((↑(List.length ns) : Int) ≤ (↑(List.length ns) : Int)) && decide ((↑8 : Int) * (↑(List.length ns) : Int) ≤ 281474976710656)))
      (LoopE c_impl_DepthOf ⟨[1, 4, 17, 18], 2, false⟩ (lb c_impl_DepthOf 5 Try.f28) [(1, (.ptr 0 0)), (4, (.obj 1 0)), (17, (.int .i64 ((↑(List.length ns) : Int)))), (18, (.int .i64 0))] [(.box [(.vec tN (ns))]), (.sl 0 (.int .i64) (List.replicate (Int.toNat (↑(List.length ns) : Int)) 0))] (lk c_impl_DepthOf 5 Try.f28 [] K))
      (False)) := by kernel_rfl
noncomputable def s_impl_DepthOf : Sm := semG [.agg tS] (fun x => match x with | (ns, _) => validS ns) fun x => match x with | (ns, _) => .tuple [.int .i64 (depV ns), .bool true]
theorem ok_impl_DepthOf : FnOk Try.prog 28 s_impl_DepthOf := fnOk_typedG (fnOk_runC (C := c_impl_DepthOf) rfl mixed (.cons ok_impl_ValidShape (.cons ok_impl_childrenOf (.cons ok_impl_Shape_last .nil))) .nil .nil Try.func28 (by kernel_rfl)) fun (x : ((ShapeD) × Unit)) wf hg K h => by
  obtain ⟨ns, ⟨⟩⟩ := x
  replace hg : (validS ns) = true := hg
  replace h : K (.tuple [.int .i64 (depV ns), .bool true]) [] := h
  rw [w_impl_DepthOf ns K]
  obtain ⟨l1, l2⟩ := valid_leng hg
  have hn := valid_nodes hg
  rw [hg]
  have h8 : (8 : Int) * (ns.length : Int) ≤ 281474976710656 := by omega
  simp only [Bool.not_true, cond_false, Int.toNat_natCast]
  refine cond_yes (by simp only [Bool.and_eq_true, decide_eq_true_eq]; exact ⟨by omega, Int.le_refl _, h8⟩) ?_
  refine loop_run (σ := Nat) (fun i => fr_impl_DepthOf_5 ns [] ns.length i) (fun i => hp_impl_DepthOf_5 ns (dpL ns i ++ List.replicate (ns.length - i) 0) ns.length i) (fun i => i ≤ ns.length) (fun i => ns.length - i) ?_ 0 (Nat.zero_le _)
  intro i hi Kn hk
  rw [show fr_impl_DepthOf_5 ns [] ns.length i = fr_impl_DepthOf_5 ns (dpL ns i ++ List.replicate (ns.length - i) 0) ns.length i from rfl, r_impl_DepthOf_5 ns (dpL ns i ++ List.replicate (ns.length - i) 0) ns.length i Kn K]
  have hl := dpL_len ns i
  have hr := dpL_range ns i
  by_cases hlt : i < ns.length
  · have next := hk (i + 1) hlt (by omega)
    have hs : dpL ns (i + 1) = dpL ns i ++ [dMax (dpL ns i) (kidsN (nodeAt ns i)) + 1] := rfl
    rw [hs] at next
    obtain ⟨e, hb⟩ := nodes_at hn (i := (i : Int)) (by omega) (by omega)
    simp only [d_lt hlt, d_0, e, cond_true]
    generalize nodeAt ns (i : Int) = nd at *
    obtain ⟨k, a, c, xs⟩ := nd
    have b3 := (nodeB_parts hb).2.2
    have hk2 := kids_len (k, a, c, xs)
    change (kids k a c).length ≤ 2 at hk2
    change Kn _ (hp_impl_DepthOf_5 ns ((dpL ns i ++ [dMax (dpL ns i) (kids k a c) + 1]) ++ List.replicate (ns.length - (i + 1)) 0) ns.length ((i + 1 : Nat) : Int)) at next
    generalize dpL ns i = ds at *
    simp only
    generalize kids k a c = cs at *
    obtain ⟨m, hm⟩ : ∃ m, ns.length - i = m + 1 := ⟨ns.length - i - 1, by omega⟩
    rw [hm, List.replicate_succ]
    rw [show ns.length - (i + 1) = m by omega] at next
    have hlen : ∀ x : Int, (ds ++ x :: List.replicate m 0).length = ns.length := fun x => by simp only [List.length_append, List.length_cons, List.length_replicate]; omega
    refine loop_run (σ := Nat) (fun j => fr_impl_DepthOf_8 ns [] i ns.length i cs cs.length j) (fun j => hp_impl_DepthOf_8 ns (ds ++ dMax ds (cs.take j) :: List.replicate m 0) 0 0 0 [] 0 0) (fun j => j ≤ cs.length) (fun j => cs.length - j) ?_ 0 (Nat.zero_le _)
    intro j hj Kn' hk'
    rw [show fr_impl_DepthOf_8 ns [] i ns.length i cs cs.length j = fr_impl_DepthOf_8 ns (ds ++ dMax ds (cs.take j) :: List.replicate m 0) i ns.length i cs cs.length j from rfl,
      show hp_impl_DepthOf_8 ns (ds ++ dMax ds (cs.take j) :: List.replicate m 0) 0 0 0 [] 0 0 = hp_impl_DepthOf_8 ns (ds ++ dMax ds (cs.take j) :: List.replicate m 0) i ns.length i cs cs.length j from rfl,
      r_impl_DepthOf_8 ns (ds ++ dMax ds (cs.take j) :: List.replicate m 0) i ns.length i cs cs.length j Kn Kn' K]
    have mr := dMax_range hr (cs := cs.take j)
    have hmid : ∀ x : Int, (ds ++ x :: List.replicate m 0)[i]? = some x := fun x => get_mid hl.symm
    simp only [d_0, cond_true, Int.toNat_natCast, hlen, blt_t hlt, hmid, Bool.and_self]
    by_cases hjl : j < cs.length
    · have cr := b3 _ (List.getElem_mem hjl)
      have hgc : (ds ++ dMax ds (cs.take j) :: List.replicate m 0)[(cs[j]'hjl).toNat]? = some (dI ds (cs[j]'hjl)) := by
        rw [List.getElem?_append_left (by omega)]
        unfold dI
        rw [get_lt (show (cs[j]'hjl).toNat < ds.length by omega)]
        rfl
      simp only [d_lt hjl, cond_true, get_lt hjl, d_t cr.1, blt_t (show (cs[j]'hjl).toNat < ns.length by omega), Bool.and_self, hgc, set_mid hl.symm]
      rw [i64_of (n := (j : Int) + 1) (by omega) (by omega)]
      have next' := hk' (j + 1) hjl (by omega)
      have hd : dMax ds (cs.take (j + 1)) = bif decide (dI ds (cs[j]'hjl) > dMax ds (cs.take j)) then dI ds (cs[j]'hjl) else dMax ds (cs.take j) := by
        rw [take_one hjl]
        unfold dMax
        rw [List.foldl_append]
        simp only [List.foldl_cons, List.foldl_nil]
        rw [max_bif]
      rw [hd] at next'
      exact next'
    · have : j = cs.length := by omega
      subst this
      rw [List.take_length] at mr ⊢
      simp only [d_nlt hjl, cond_false, set_mid hl.symm]
      rw [i64_of (n := dMax ds cs + 1) (by omega) (by omega), i64_of (n := (i : Int) + 1) (by omega) (by omega)]
      rw [List.append_assoc] at next
      exact next
  · have : i = ns.length := by omega
    subst this
    have e1 : IntKind.i64.wrap ((ns.length : Int) - 1) = (ns.length : Int) - 1 := i64_of (by omega) (by omega)
    rw [Nat.sub_self, List.replicate_zero, List.append_nil, d_nlt hlt, e1]
    have hg2 : (dpL ns ns.length)[((ns.length : Int) - 1).toNat]? = some (depV ns) := by
      unfold depV dI
      rw [get_lt (show ((ns.length : Int) - 1).toNat < (dpL ns ns.length).length by omega)]
      rfl
    simp only [cond_false, d_t (show 0 ≤ (ns.length : Int) - 1 by omega), blt_t (show ((ns.length : Int) - 1).toNat < (dpL ns ns.length).length by omega), Bool.and_self, cond_true, hg2]
    exact h

/-! impl.itself -/
noncomputable def c_impl_itself : Ctx := mkC Try.prog tyT [] [] [] 4 (fun _ => none) 0
theorem w_impl_itself (n : Int) (K : V → Heap → Prop) : wpFn c_impl_itself Try.f89 (encAs [.cell tI] (n, ())) [] K =
  K (.int .i64 (n)) [] := by kernel_rfl
noncomputable def s_impl_itself : Sm := semT [.cell tI] fun x => match x with | (n, _) => .int .i64 n
theorem ok_impl_itself : FnOk Try.prog 89 s_impl_itself := fnOk_typed (fnOk_runC (C := c_impl_itself) rfl mixed .nil .nil .nil Try.func89 (by kernel_rfl)) fun (x : ((Int) × Unit)) wf K h => by
  obtain ⟨n, ⟨⟩⟩ := x
  replace h : K (.int .i64 n) [] := h
  rw [w_impl_itself n K]
  exact h

def markK (bs : List Bool) (cs : List Int) : List Bool := cs.foldl (fun b c => b.set c.toNat true) bs
theorem markK_len : ∀ (cs : List Int) (bs : List Bool), (markK bs cs).length = bs.length
  | [], _ => rfl
  | c :: cs, bs => by
    show (markK (bs.set c.toNat true) cs).length = _
    rw [markK_len cs, List.length_set]
def belGo (ns : ShapeD) : Nat → List Bool → List Bool
  | 0, bs => bs
  | i + 1, bs => belGo ns i (bif (bs[i]?).getD false then markK bs (kidsN (nodeAt ns i)) else bs)
--B belV List (Int × Int × Int × List Nat) → Int → List Bool
def belV (ns : ShapeD) (node : Int) : List Bool := belGo ns ns.length ((List.replicate ns.length false).set node.toNat true)

/-! (*impl.Shape).below -/
noncomputable def a_impl_Shape_below_vi : Nat → Option Ann := fun n => bif Nat.beq n 4 then some ⟨[0,2,7,8],1,false⟩ else bif Nat.beq n 8 then some ⟨[0,2,7,8,43,44,45],1,false⟩ else none
noncomputable def c_impl_Shape_below_vi : Ctx := mkC Try.prog tyT [(83, s_impl_childrenOf), (89, s_impl_itself)] [] [] 56 a_impl_Shape_below_vi 0
noncomputable def gp_impl_Shape_below_vi : List (List (Option Ty)) := List.map giveR [.cell (.own .bool)]
noncomputable def fr_impl_Shape_below_vi_4 (ns : ShapeD) (bs : List Bool) (i : Int) : Fr := [(0, .ref [.vec tN ns] 0), (2, .fn 89 []), (7, .obj 0 0), (8, .int .i64 i)]
noncomputable def hp_impl_Shape_below_vi_4 (ns : ShapeD) (bs : List Bool) (i : Int) : Heap := [.sl 0 .bool bs]
theorem r_impl_Shape_below_vi_4 (ns : ShapeD) (bs : List Bool) (i : Int) (Kn : Fr → Heap → Prop) (K : V → Heap → Prop) : round c_impl_Shape_below_vi ⟨[0,2,7,8],1,false⟩ (lb c_impl_Shape_below_vi 4 Try.f88) (fr_impl_Shape_below_vi_4 ns bs i) (hp_impl_Shape_below_vi_4 ns bs i) Kn (lkG gp_impl_Shape_below_vi c_impl_Shape_below_vi 4 Try.f88 [] K) =
  cond (decide (i ≥ 0))
    (cond (decide (0 ≤ i) && Nat.blt (Int.toNat i) (List.length bs))
      ((match bs[Int.toNat i]? with
        | some x0 => cond (!x0)
          (Kn [(0, (.ref [(.vec tN (ns))] 0)), (2, (.fn 89 [])), (7, (.obj 0 0)), (8, (.int .i64 (IntKind.wrap IntKind.i64 (i - 1))))] [(.sl 0 .bool (bs))])
          (cond (decide (0 ≤ i))
            ((match ns[Int.toNat i]? with
              | some y1 => LoopE c_impl_Shape_below_vi ⟨[0, 2, 7, 8, 43, 44, 45], 1, false⟩ (pathB c_impl_Shape_below_vi [4, 8] (bodyOf Try.f88)) [(0, (.ref [(.vec tN (ns))] 0)), (2, (.fn 89 [])), (7, (.obj 0 0)), (8, (.int .i64 (i))), (43, (.vec (.int .i64) (kids (Prod.fst y1) (Prod.fst (Prod.snd y1)) (Prod.fst (Prod.snd (Prod.snd y1)))))), (44, (.int .i64 ((↑(List.length (kids (Prod.fst y1) (Prod.fst (Prod.snd y1)) (Prod.fst (Prod.snd (Prod.snd y1))))) : Int)))), (45, (.int .i64 0))] [(.sl 0 .bool (bs))] (pathK c_impl_Shape_below_vi [(4, ⟨[0,2,7,8],1,false⟩, Kn)] 8 (bodyOf Try.f88) (kFnG gp_impl_Shape_below_vi c_impl_Shape_below_vi Try.f88 [] K))
              | none => False))
            (False))
        | none => False))
      (False))
    (K (.obj 0 0) [(.sl 0 .bool (bs))]) := by kernel_rfl
noncomputable def fr_impl_Shape_below_vi_8 (ns : ShapeD) (bs : List Bool) (i : Int) (cs : List Int) (m j : Int) : Fr := [(0, .ref [.vec tN ns] 0), (2, .fn 89 []), (7, .obj 0 0), (8, .int .i64 i), (43, .vec tI cs), (44, .int .i64 m), (45, .int .i64 j)]
noncomputable def hp_impl_Shape_below_vi_8 (ns : ShapeD) (bs : List Bool) (i : Int) (cs : List Int) (m j : Int) : Heap := [.sl 0 .bool bs]
theorem r_impl_Shape_below_vi_8 (ns : ShapeD) (bs : List Bool) (i : Int) (cs : List Int) (m j : Int) (Kn4 : Fr → Heap → Prop) (Kn : Fr → Heap → Prop) (K : V → Heap → Prop) : round c_impl_Shape_below_vi ⟨[0,2,7,8,43,44,45],1,false⟩ (pathB c_impl_Shape_below_vi [4, 8] (bodyOf Try.f88)) (fr_impl_Shape_below_vi_8 ns bs i cs m j) (hp_impl_Shape_below_vi_8 ns bs i cs m j) Kn (pathK c_impl_Shape_below_vi [(4, ⟨[0,2,7,8],1,false⟩, Kn4)] 8 (bodyOf Try.f88) (kFnG gp_impl_Shape_below_vi c_impl_Shape_below_vi Try.f88 [] K)) =
  cond (decide (j < m))
    (cond (decide (0 ≤ j))
      ((match cs[Int.toNat j]? with
        | some y0 => cond (decide (0 ≤ y0) && Nat.blt (Int.toNat y0) (List.length bs))
          ((match bs[Int.toNat y0]? with
            | some x1 => Kn [(0, (.ref [(.vec tN (ns))] 0)), (2, (.fn 89 [])), (7, (.obj 0 0)), (8, (.int .i64 (i))), (43, (.vec (.int .i64) (cs))), (44, (.int .i64 (m))), (45, (.int .i64 (IntKind.wrap IntKind.i64 (j + 1))))] [(.sl 0 .bool (List.set bs (Int.toNat y0) true))]
            | none => False))
          (False)
        | none => False))
      (False))
    (Kn4 [(0, (.ref [(.vec tN (ns))] 0)), (2, (.fn 89 [])), (7, (.obj 0 0)), (8, (.int .i64 (IntKind.wrap IntKind.i64 (i - 1))))] [(.sl 0 .bool (bs))]) := by kernel_rfl
theorem w_impl_Shape_below_vi (ns : ShapeD) (node : Int) (K : V → Heap → Prop) : wpFnG gp_impl_Shape_below_vi c_impl_Shape_below_vi Try.f88 (encAs [.ref tS, .cell tI, .fn 89] (ns, node, (), ())) [] K =
  cond (decide (0 ≤ (↑(List.length ns) : Int)) && (decide ((↑(List.length ns) : Int) ≤ (↑(List.length ns) : Int)) && decide ((↑1 : Int) * (↑(List.length ns) : Int) ≤ 281474976710656)))
    (cond (decide (0 ≤ node) && Nat.blt (Int.toNat node) (List.length (List.replicate (Int.toNat (↑(List.length ns) : Int)) false)))
      ((match (List.replicate (Int.toNat (↑(List.length ns) : Int)) false)[Int.toNat node]? with
        | some x0 => LoopE c_impl_Shape_below_vi ⟨[0, 2, 7, 8], 1, false⟩ (lb c_impl_Shape_below_vi 4 Try.f88) [(0, (.ref [(.vec tN (ns))] 0)), (2, (.fn 89 [])), (7, (.obj 0 0)), (8, (.int .i64 (IntKind.wrap IntKind.i64 ((↑(List.length ns) : Int) - 1))))] [(.sl 0 .bool (List.set (List.replicate (Int.toNat (↑(List.length ns) : Int)) false) (Int.toNat node) true))] (lkG gp_impl_Shape_below_vi c_impl_Shape_below_vi 4 Try.f88 [] K)
        | none => False))
      (False))
    (False) := by kernel_rfl
noncomputable def s_impl_Shape_below_vi : Sm := semV [.ref tS, .cell tI, .fn 89] [.cell (.own .bool)] (fun x => match x with | (ns, node, _, _) => nodesB ns && (inR node 0 (ns.length - 1) && decide (ns.length ≤ 16))) fun x => match x with | (ns, node, _, _) => (belV ns node, ())
theorem ok_impl_Shape_below_vi : FnOkL Try.prog 88 s_impl_Shape_below_vi := fnOkO_give (fnOkO_runG (C := c_impl_Shape_below_vi) gp_impl_Shape_below_vi rfl mixed (.cons ok_impl_childrenOf (.cons ok_impl_itself .nil)) .nil .nil Try.func88 (by kernel_rfl)) rfl fun (x : ((ShapeD) × (Int) × Unit × Unit)) wf hg K h => by
  obtain ⟨ns, node, ⟨⟩, ⟨⟩⟩ := x
  replace hg : (nodesB ns && (inR node 0 (ns.length - 1) && decide (ns.length ≤ 16))) = true := hg
  replace h : K (tup (valRs [.cell (.own .bool)] ((belV ns node, ())) 0)) (thRs [.cell (.own .bool)] ((belV ns node, ()))) := h
  rw [w_impl_Shape_below_vi ns node K]
  simp only [Bool.and_eq_true, decide_eq_true_eq] at hg
  obtain ⟨hn, hnode, hl16⟩ := hg
  have hnode := inR_iff.1 hnode
  simp only [Int.toNat_natCast, List.length_replicate]
  have hrep : (List.replicate ns.length false)[node.toNat]? = some false := by rw [List.getElem?_replicate, if_pos (by omega)]
  refine cond_yes (by simp only [Bool.and_eq_true, decide_eq_true_eq]; omega) ?_
  simp only [d_t hnode.1, blt_t (show node.toNat < ns.length by omega), Bool.and_self, cond_true, hrep]
  rw [i64_of (n := (ns.length : Int) - 1) (by omega) (by omega)]
  unfold belV at h
  refine loop_run (σ := Nat × Int × List Bool) (fun q => fr_impl_Shape_below_vi_4 ns [] q.2.1) (fun q => hp_impl_Shape_below_vi_4 ns q.2.2 0) (fun q => q.1 ≤ ns.length ∧ q.2.1 = (q.1 : Int) - 1 ∧ q.2.2.length = ns.length ∧ belGo ns q.1 q.2.2 = belGo ns ns.length ((List.replicate ns.length false).set node.toNat true)) (fun q => q.1) ?_ (ns.length, (ns.length : Int) - 1, (List.replicate ns.length false).set node.toNat true) ⟨Nat.le_refl _, rfl, by simp, rfl⟩
  rintro ⟨i, ii, bs⟩ ⟨hi, hii, hbl, hgo⟩ Kn hk
  simp only at hi hii hbl hgo hk ⊢
  rw [← hgo] at h
  rw [show fr_impl_Shape_below_vi_4 ns [] ii = fr_impl_Shape_below_vi_4 ns bs ii from rfl, show hp_impl_Shape_below_vi_4 ns bs 0 = hp_impl_Shape_below_vi_4 ns bs ii from rfl, r_impl_Shape_below_vi_4 ns bs ii Kn K]
  cases i with
  | zero =>
    rw [d_f (show ¬ ii ≥ 0 by omega)]
    exact h
  | succ i =>
    have ei : ii = (i : Int) := by omega
    subst ei
    have hs : belGo ns (i + 1) bs = belGo ns i (bif (bs[i]?).getD false then markK bs (kidsN (nodeAt ns i)) else bs) := rfl
    rw [hs] at hgo
    obtain ⟨e, hb⟩ := nodes_at hn (i := (i : Int)) (by omega) (by omega)
    have hw : IntKind.i64.wrap ((i : Int) - 1) = (i : Int) - 1 := i64_of (by omega) (by omega)
    have hbi := get_lt (show i < bs.length by omega)
    rw [hbi] at hgo
    simp only [d_t (show (i : Int) ≥ 0 by omega), d_0, Int.toNat_natCast, blt_t (show i < bs.length by omega), Bool.and_self, cond_true, hbi, hw]
    simp only [Option.getD_some] at hgo
    cases hx : bs[i]'(by omega) with
    | false =>
      rw [hx] at hgo
      exact hk (i, (i : Int) - 1, bs) ⟨by simp only; omega, rfl, hbl, hgo⟩ (Nat.lt_succ_self i)
    | true =>
      rw [hx] at hgo
      rw [Int.toNat_natCast] at e
      simp only [Bool.not_true, cond_false, e]
      generalize nodeAt ns (i : Int) = nd at *
      obtain ⟨k, a, c, xs⟩ := nd
      have b3 := (nodeB_parts hb).2.2
      have hk2 := kids_len (k, a, c, xs)
      change (kids k a c).length ≤ 2 at hk2
      change belGo ns i (markK bs (kids k a c)) = _ at hgo
      simp only
      generalize kids k a c = cs at *
      have mlen : ∀ j, (markK bs (cs.take j)).length = bs.length := fun j => markK_len _ _
      refine loop_run (σ := Nat) (fun j => fr_impl_Shape_below_vi_8 ns [] i cs cs.length j) (fun j => hp_impl_Shape_below_vi_8 ns (markK bs (cs.take j)) 0 [] 0 0) (fun j => j ≤ cs.length) (fun j => cs.length - j) ?_ 0 (Nat.zero_le _)
      intro j hj Kn' hk'
      rw [show fr_impl_Shape_below_vi_8 ns [] i cs cs.length j = fr_impl_Shape_below_vi_8 ns (markK bs (cs.take j)) i cs cs.length j from rfl, show hp_impl_Shape_below_vi_8 ns (markK bs (cs.take j)) 0 [] 0 0 = hp_impl_Shape_below_vi_8 ns (markK bs (cs.take j)) i cs cs.length j from rfl, r_impl_Shape_below_vi_8 ns (markK bs (cs.take j)) i cs cs.length j Kn Kn' K]
      by_cases hjl : j < cs.length
      · have cr := b3 _ (List.getElem_mem hjl)
        have hgc := get_lt (show (cs[j]'hjl).toNat < (markK bs (cs.take j)).length by rw [mlen]; omega)
        simp only [d_lt hjl, d_0, cond_true, Int.toNat_natCast, get_lt hjl, d_t cr.1, blt_t (show (cs[j]'hjl).toNat < (markK bs (cs.take j)).length by rw [mlen]; omega), Bool.and_self, hgc]
        rw [i64_of (n := (j : Int) + 1) (by omega) (by omega)]
        have next' := hk' (j + 1) hjl (by omega)
        rw [take_one hjl] at next'
        unfold markK at next' ⊢
        rw [List.foldl_append] at next'
        exact next'
      · have : j = cs.length := by omega
        subst this
        rw [List.take_length, d_nlt hjl, hw]
        exact hk (i, (i : Int) - 1, markK bs cs) ⟨by simp only; omega, rfl, by simp only; rw [markK_len]; exact hbl, hgo⟩ (Nat.lt_succ_self i)

end Go.Proofs.Ytfhpmcdbfebflaa

/- Parts of shapes: walks. -/
set_option linter.unusedVariables false
set_option linter.unusedSimpArgs false
set_option maxRecDepth 100000
namespace Go.Proofs.Ytfhpmcdbfebflaa
open Go.Ev Go.Ev.Fl

noncomputable def gp_slices_Clone__float32 : List (List (Option Ty)) := List.map giveR [.cell (.own (tF))]
noncomputable def c_slices_Clone__float32 : Ctx := mkC Try.prog tyT [] [] [] 8 (fun _ => none) 0
theorem w_slices_Clone__float32 (x : (tF).den) (xs : List (tF).den) (K : V → Heap → Prop) : wpFnG gp_slices_Clone__float32 c_slices_Clone__float32 Try.f167 [.vec (tF) (x :: xs)] [] K =
  cond (decide (((0 : Nat) + List.length (x :: xs)) * (4 : Nat) ≤ (140737488355328 : Nat)))
    (K (.obj 0 0) [(.sl 0 (.float .f32) ([] ++ x :: xs))])
    (False) := by kernel_rfl
theorem w2_slices_Clone__float32 (b : Bool) (K : V → Heap → Prop) : wpFnG gp_slices_Clone__float32 c_slices_Clone__float32 Try.f167 [.empty b false] [] K =
  cond (b)
    (K (.obj 0 0) [(.sl 0 (.float .f32) ([]))])
    (K (.obj 0 0) [(.sl 0 (.float .f32) ([] ++ []))]) := by kernel_rfl
noncomputable def s_slices_Clone__float32 : Sm := semV [.cell (.slice (tF))] [.cell (.own (tF))] (fun x => decide (x.1.length ≤ 1048576)) fun x => (x.1, ())
theorem ok_slices_Clone__float32 : FnOkL Try.prog 167 s_slices_Clone__float32 := fnOkO_clone (fnOkO_runG (C := c_slices_Clone__float32) gp_slices_Clone__float32 rfl mixed .nil .nil .nil Try.func167 (by kernel_rfl)) 1048576
  (fun x xs K hl h => by
    rw [w_slices_Clone__float32 x xs K, d_t (by rw [List.length_cons]; omega)]
    exact h)
  (fun b K h => by
    rw [w2_slices_Clone__float32 b K]
    cases b <;> exact h)

/-! impl.cloneNode -/
noncomputable def c_impl_cloneNode : Ctx := mkC Try.prog tyT [] [] [(167, s_slices_Clone__float32)] 8 (fun _ => none) 0
noncomputable def gp_impl_cloneNode : List (List (Option Ty)) := List.map giveR [.agg [.imm tI, .imm tI, .imm tI, .own tF]]
theorem w_impl_cloneNode (k a b : Int) (xs : List Nat) (K : V → Heap → Prop) : wpFnG gp_impl_cloneNode c_impl_cloneNode Try.f141 (encAs [.agg tN] ((k, a, b, xs), ())) [] K =
  cond (decide (List.length xs ≤ 1048576))
    (K (.agg [(.int .i64 (k)), (.int .i64 (a)), (.int .i64 (b)), (.obj 0 0)]) [(.sl 0 (.float .f32) (xs))])
    (False) := by kernel_rfl
noncomputable def s_impl_cloneNode : Sm := semV [.agg tN] [.agg [.imm tI, .imm tI, .imm tI, .own tF]] (fun x => match x with | ((k, a, b, xs), _) => decide (xs.length ≤ 1048576)) fun x => match x with | ((k, a, b, xs), _) => ((k, a, b, xs, ()), ())
theorem ok_impl_cloneNode : FnOkL Try.prog 141 s_impl_cloneNode := fnOkO_give (fnOkO_runG (C := c_impl_cloneNode) gp_impl_cloneNode rfl mixed .nil .nil (.cons ok_slices_Clone__float32 .nil) Try.func141 (by kernel_rfl)) rfl fun (x : (((Int) × (Int) × (Int) × (List Nat)) × Unit)) wf hg K h => by
  obtain ⟨⟨k, a, b, xs⟩, ⟨⟩⟩ := x
  replace hg : (decide (xs.length ≤ 1048576)) = true := hg
  replace h : K (tup (valRs [.agg [.imm tI, .imm tI, .imm tI, .own tF]] (((k, a, b, xs, ()), ())) 0)) (thRs [.agg [.imm tI, .imm tI, .imm tI, .own tF]] (((k, a, b, xs, ()), ()))) := h
  rw [w_impl_cloneNode k a b xs K]
  rw [hg]; exact h

/-- A node whose children stand at other places. -/
def keepN (pl : List Int) (n : NodeD) : NodeD := (n.1, (bif !inR n.1 0 4 then dI pl n.2.1 else n.2.1), (bif inR n.1 5 8 then dI pl n.2.2.1 else n.2.2.1), n.2.2.2)
abbrev KpD := List Int × ShapeD
def kpStep (ns : ShapeD) (bs : List Bool) (i : Nat) (q : KpD) : KpD := bif (bs[i]?).getD false then (q.1.set i q.2.length, q.2 ++ [keepN (q.1.set i q.2.length) (nodeAt ns i)]) else q
def kpGo (ns : ShapeD) (bs : List Bool) : Nat → KpD
  | 0 => (List.replicate ns.length 0, [])
  | i + 1 => kpStep ns bs i (kpGo ns bs i)
--B keptV List (Int × Int × Int × List Nat) → List Bool → List (Int × Int × Int × List Nat)
def keptV (ns : ShapeD) (bs : List Bool) : ShapeD := (kpGo ns bs ns.length).2
theorem kp_len (ns : ShapeD) (bs : List Bool) (i : Nat) : (kpGo ns bs i).1.length = ns.length ∧ (kpGo ns bs i).2.length ≤ i := by
  induction i with
  | zero => exact ⟨List.length_replicate, Nat.le_refl _⟩
  | succ i ih =>
    unfold kpGo kpStep
    cases (bs[i]?).getD false with
    | true => simp only [cond_true, List.length_set, List.length_append, List.length_singleton]; omega
    | false => simp only [cond_false]; omega
theorem kidsC0 {k : Int} (h : isK k = true) : decide (kindC k > 0) = !inR k 0 4 := by
  rcases kinds h with r | r | r | r | r | r | r | r | r | r | r | r | r | r | r | r | r <;> subst r <;> decide
theorem kidsC1 {k : Int} (h : isK k = true) : decide (kindC k > 1) = inR k 5 8 := by
  rcases kinds h with r | r | r | r | r | r | r | r | r | r | r | r | r | r | r | r | r <;> subst r <;> decide

def kpH (q : KpD) : Heap := match q.2 with
  | [] => [.box [.nils], .sl 0 tI q.1, .box [.nils]]
  | _ :: _ => [.box [.nils], .sl 0 tI q.1, .box [.dob 3 0], .dp 0 0 tN q.2]
theorem kpH_nil (pl : List Int) : kpH (pl, []) = [.box [.nils], .sl 0 tI pl, .box [.nils]] := rfl
theorem kpH_app (pl : List Int) (out : ShapeD) (x : NodeD) : kpH (pl, out ++ [x]) = [.box [.nils], .sl 0 tI pl, .box [.dob 3 0], .dp 0 0 tN (out ++ [x])] := by
  cases out <;> rfl

/-! (*impl.Shape).kept -/
noncomputable def a_impl_Shape_kept_vi : Nat → Option Ann := fun n => bif Nat.beq n 3 then some ⟨[0,1,2,6,7,8,24,25],0,true⟩ else none
noncomputable def c_impl_Shape_kept_vi : Ctx := mkC Try.prog tyT [(98, s_impl_ruleOf), (89, s_impl_itself)] [] [(141, s_impl_cloneNode)] 83 a_impl_Shape_kept_vi 0 false [] true
noncomputable def gp_impl_Shape_kept_vi : List (List (Option Ty)) := List.map giveR [.agg [.deep tN]]
noncomputable def fr_impl_Shape_kept_vi_3 (ns : ShapeD) (bs : List Bool) (pl : List Int) (out : ShapeD) (n i m : Int) : Fr := [(0, .ref [.vec tN ns] 0), (1, .vec .bool bs), (2, .fn 89 []), (6, .ptr 0 0), (7, .obj 1 0), (8, .ptr 2 0), (24, .int .i64 n), (25, .int .i64 i)]
noncomputable def hp_impl_Shape_kept_vi_3 (ns : ShapeD) (bs : List Bool) (pl : List Int) (out : ShapeD) (n i m : Int) : Heap := (match m with | 0 => [.box [.nils], .sl 0 tI pl, .box [.nils]] | _ => [.box [.nils], .sl 0 tI pl, .box [.dob 3 0], .dp 0 0 tN out])
theorem r_impl_Shape_kept_vi_3_0 (ns : ShapeD) (bs : List Bool) (pl : List Int) (out : ShapeD) (n i : Int) (Kn : Fr → Heap → Prop) (K : V → Heap → Prop) : round c_impl_Shape_kept_vi ⟨[0,1,2,6,7,8,24,25],0,true⟩ (lb c_impl_Shape_kept_vi 3 Try.f87) (fr_impl_Shape_kept_vi_3 ns bs pl out n i (0 : Int)) (hp_impl_Shape_kept_vi_3 ns bs pl out n i (0 : Int)) Kn (lkG gp_impl_Shape_kept_vi c_impl_Shape_kept_vi 3 Try.f87 [] K) =
  cond (decide (i < n))
    (cond (decide (0 ≤ i))
      ((match bs[Int.toNat i]? with
        | some y0 => cond (!y0)
          (Kn [(0, (.ref [(.vec tN (ns))] 0)), (1, (.vec .bool (bs))), (2, (.fn 89 [])), (6, (.ptr 0 0)), (7, (.obj 1 0)), (8, (.ptr 2 0)), (24, (.int .i64 (n))), (25, (.int .i64 (IntKind.wrap IntKind.i64 (i + 1))))] [(.box [.nils]), (.sl 0 (.int .i64) (pl)), (.box [.nils])])
          (cond (decide (0 ≤ i) && Nat.blt (Int.toNat i) (List.length pl))
            ((match pl[Int.toNat i]? with
              | some x1 => cond (decide (0 ≤ i))
                ((match ns[Int.toNat i]? with
                  | some y2 => cond (decide (List.length (Prod.snd (Prod.snd (Prod.snd y2))) ≤ 1048576))
                    (cond (decide (kindC (Prod.fst y2) > 0))
                      (cond (decide (0 ≤ Prod.fst (Prod.snd y2)) && Nat.blt (Int.toNat (Prod.fst (Prod.snd y2))) (List.length (List.set pl (Int.toNat i) 0)))
                        ((match (List.set pl (Int.toNat i) 0)[Int.toNat (Prod.fst (Prod.snd y2))]? with
                          | some x3 => cond (decide (kindC (Prod.fst y2) > 1))
                            (cond (decide (0 ≤ Prod.fst (Prod.snd (Prod.snd y2))) && Nat.blt (Int.toNat (Prod.fst (Prod.snd (Prod.snd y2)))) (List.length (List.set pl (Int.toNat i) 0)))
                              ((match (List.set pl (Int.toNat i) 0)[Int.toNat (Prod.fst (Prod.snd (Prod.snd y2)))]? with
                                | some x4 => Kn [(0, (.ref [(.vec tN (ns))] 0)), (1, (.vec .bool (bs))), (2, (.fn 89 [])), (6, (.ptr 0 0)), (7, (.obj 1 0)), (8, (.ptr 2 0)), (24, (.int .i64 (n))), (25, (.int .i64 (IntKind.wrap IntKind.i64 (i + 1))))] [(.box [.nils]), (.sl 0 (.int .i64) (List.set pl (Int.toNat i) 0)), (.box [(.dob 3 0)]), (.dp 0 0 tN ([(Prod.fst y2, x3, x4, Prod.snd (Prod.snd (Prod.snd y2)))]))]
                                | none => False))
                              (False))
                            (Kn [(0, (.ref [(.vec tN (ns))] 0)), (1, (.vec .bool (bs))), (2, (.fn 89 [])), (6, (.ptr 0 0)), (7, (.obj 1 0)), (8, (.ptr 2 0)), (24, (.int .i64 (n))), (25, (.int .i64 (IntKind.wrap IntKind.i64 (i + 1))))] [(.box [.nils]), (.sl 0 (.int .i64) (List.set pl (Int.toNat i) 0)), (.box [(.dob 3 0)]), (.dp 0 0 tN ([(Prod.fst y2, x3, Prod.snd (Prod.snd y2))]))])
                          | none => False))
                        (False))
                      (cond (decide (kindC (Prod.fst y2) > 1))
                        (cond (decide (0 ≤ Prod.fst (Prod.snd (Prod.snd y2))) && Nat.blt (Int.toNat (Prod.fst (Prod.snd (Prod.snd y2)))) (List.length (List.set pl (Int.toNat i) 0)))
                          ((match (List.set pl (Int.toNat i) 0)[Int.toNat (Prod.fst (Prod.snd (Prod.snd y2)))]? with
                            | some x5 => Kn [(0, (.ref [(.vec tN (ns))] 0)), (1, (.vec .bool (bs))), (2, (.fn 89 [])), (6, (.ptr 0 0)), (7, (.obj 1 0)), (8, (.ptr 2 0)), (24, (.int .i64 (n))), (25, (.int .i64 (IntKind.wrap IntKind.i64 (i + 1))))] [(.box [.nils]), (.sl 0 (.int .i64) (List.set pl (Int.toNat i) 0)), (.box [(.dob 3 0)]), (.dp 0 0 tN ([(Prod.fst y2, Prod.fst (Prod.snd y2), x5, Prod.snd (Prod.snd (Prod.snd y2)))]))]
                            | none => False))
                          (False))
                        (Kn [(0, (.ref [(.vec tN (ns))] 0)), (1, (.vec .bool (bs))), (2, (.fn 89 [])), (6, (.ptr 0 0)), (7, (.obj 1 0)), (8, (.ptr 2 0)), (24, (.int .i64 (n))), (25, (.int .i64 (IntKind.wrap IntKind.i64 (i + 1))))] [(.box [.nils]), (.sl 0 (.int .i64) (List.set pl (Int.toNat i) 0)), (.box [(.dob 3 0)]), (.dp 0 0 tN ([y2]))])))
                    (False)
                  | none => False))
                (False)
              | none => False))
            (False))
        | none => False))
      (False))
    (K (.agg [(.dob 0 0)]) [(.dp 0 0 tN ([]))]) := by kernel_rfl
theorem r_impl_Shape_kept_vi_3_1 (ns : ShapeD) (bs : List Bool) (pl : List Int) (out : ShapeD) (n i : Int) (Kn : Fr → Heap → Prop) (K : V → Heap → Prop) : round c_impl_Shape_kept_vi ⟨[0,1,2,6,7,8,24,25],0,true⟩ (lb c_impl_Shape_kept_vi 3 Try.f87) (fr_impl_Shape_kept_vi_3 ns bs pl out n i (1 : Int)) (hp_impl_Shape_kept_vi_3 ns bs pl out n i (1 : Int)) Kn (lkG gp_impl_Shape_kept_vi c_impl_Shape_kept_vi 3 Try.f87 [] K) =
  cond (decide (i < n))
    (cond (decide (0 ≤ i))
      ((match bs[Int.toNat i]? with
        | some y0 => cond (!y0)
          (Kn [(0, (.ref [(.vec tN (ns))] 0)), (1, (.vec .bool (bs))), (2, (.fn 89 [])), (6, (.ptr 0 0)), (7, (.obj 1 0)), (8, (.ptr 2 0)), (24, (.int .i64 (n))), (25, (.int .i64 (IntKind.wrap IntKind.i64 (i + 1))))] [(.box [.nils]), (.sl 0 (.int .i64) (pl)), (.box [(.dob 3 0)]), (.dp 0 0 tN (out))])
          (cond (decide (0 ≤ i) && Nat.blt (Int.toNat i) (List.length pl))
            ((match pl[Int.toNat i]? with
              | some x1 => cond (decide (0 ≤ i))
                ((match ns[Int.toNat i]? with
                  | some y2 => cond (decide (List.length (Prod.snd (Prod.snd (Prod.snd y2))) ≤ 1048576))
                    (cond (decide (kindC (Prod.fst y2) > 0))
                      (cond (decide (0 ≤ Prod.fst (Prod.snd y2)) && Nat.blt (Int.toNat (Prod.fst (Prod.snd y2))) (List.length (List.set pl (Int.toNat i) (↑(List.length out) : Int))))
                        ((match (List.set pl (Int.toNat i) (↑(List.length out) : Int))[Int.toNat (Prod.fst (Prod.snd y2))]? with
                          | some x3 => cond (decide (kindC (Prod.fst y2) > 1))
                            (cond (decide (0 ≤ Prod.fst (Prod.snd (Prod.snd y2))) && Nat.blt (Int.toNat (Prod.fst (Prod.snd (Prod.snd y2)))) (List.length (List.set pl (Int.toNat i) (↑(List.length out) : Int))))
                              ((match (List.set pl (Int.toNat i) (↑(List.length out) : Int))[Int.toNat (Prod.fst (Prod.snd (Prod.snd y2)))]? with
                                | some x4 => cond (decide ((List.length out + 1) * 48 ≤ 140737488355328))
                                  (Kn [(0, (.ref [(.vec tN (ns))] 0)), (1, (.vec .bool (bs))), (2, (.fn 89 [])), (6, (.ptr 0 0)), (7, (.obj 1 0)), (8, (.ptr 2 0)), (24, (.int .i64 (n))), (25, (.int .i64 (IntKind.wrap IntKind.i64 (i + 1))))] [(.box [.nils]), (.sl 0 (.int .i64) (List.set pl (Int.toNat i) (↑(List.length out) : Int))), (.box [(.dob 3 0)]), (.dp 0 0 tN (out ++ [(Prod.fst y2, x3, x4, Prod.snd (Prod.snd (Prod.snd y2)))]))])
                                  (False)
                                | none => False))
                              (False))
                            (cond (decide ((List.length out + 1) * 48 ≤ 140737488355328))
                              (Kn [(0, (.ref [(.vec tN (ns))] 0)), (1, (.vec .bool (bs))), (2, (.fn 89 [])), (6, (.ptr 0 0)), (7, (.obj 1 0)), (8, (.ptr 2 0)), (24, (.int .i64 (n))), (25, (.int .i64 (IntKind.wrap IntKind.i64 (i + 1))))] [(.box [.nils]), (.sl 0 (.int .i64) (List.set pl (Int.toNat i) (↑(List.length out) : Int))), (.box [(.dob 3 0)]), (.dp 0 0 tN (out ++ [(Prod.fst y2, x3, Prod.snd (Prod.snd y2))]))])
                              (False))
                          | none => False))
                        (False))
                      (cond (decide (kindC (Prod.fst y2) > 1))
                        (cond (decide (0 ≤ Prod.fst (Prod.snd (Prod.snd y2))) && Nat.blt (Int.toNat (Prod.fst (Prod.snd (Prod.snd y2)))) (List.length (List.set pl (Int.toNat i) (↑(List.length out) : Int))))
                          ((match (List.set pl (Int.toNat i) (↑(List.length out) : Int))[Int.toNat (Prod.fst (Prod.snd (Prod.snd y2)))]? with
                            | some x5 => cond (decide ((List.length out + 1) * 48 ≤ 140737488355328))
                              (Kn [(0, (.ref [(.vec tN (ns))] 0)), (1, (.vec .bool (bs))), (2, (.fn 89 [])), (6, (.ptr 0 0)), (7, (.obj 1 0)), (8, (.ptr 2 0)), (24, (.int .i64 (n))), (25, (.int .i64 (IntKind.wrap IntKind.i64 (i + 1))))] [(.box [.nils]), (.sl 0 (.int .i64) (List.set pl (Int.toNat i) (↑(List.length out) : Int))), (.box [(.dob 3 0)]), (.dp 0 0 tN (out ++ [(Prod.fst y2, Prod.fst (Prod.snd y2), x5, Prod.snd (Prod.snd (Prod.snd y2)))]))])
                              (False)
                            | none => False))
                          (False))
                        (cond (decide ((List.length out + 1) * 48 ≤ 140737488355328))
                          (Kn [(0, (.ref [(.vec tN (ns))] 0)), (1, (.vec .bool (bs))), (2, (.fn 89 [])), (6, (.ptr 0 0)), (7, (.obj 1 0)), (8, (.ptr 2 0)), (24, (.int .i64 (n))), (25, (.int .i64 (IntKind.wrap IntKind.i64 (i + 1))))] [(.box [.nils]), (.sl 0 (.int .i64) (List.set pl (Int.toNat i) (↑(List.length out) : Int))), (.box [(.dob 3 0)]), (.dp 0 0 tN (out ++ [y2]))])
                          (False))))
                    (False)
                  | none => False))
                (False)
              | none => False))
            (False))
        | none => False))
      (False))
    (K (.agg [(.dob 0 0)]) [(.dp 0 0 tN (out))]) := by kernel_rfl
theorem w_impl_Shape_kept_vi (ns : ShapeD) (bs : List Bool) (K : V → Heap → Prop) : wpFnG gp_impl_Shape_kept_vi c_impl_Shape_kept_vi Try.f87 (encAs [.ref tS, .cell (.slice .bool), .fn 89] (ns, bs, (), ())) [] K =
  cond (decide (0 ≤ (↑(List.length ns) : Int)) && (decide ((↑(List.length ns) : Int) ≤ (↑(List.length ns) : Int)) && decide ((↑8 : Int) * (↑(List.length ns) : Int) ≤ 281474976710656)))
    (LoopE c_impl_Shape_kept_vi ⟨[0, 1, 2, 6, 7, 8, 24, 25], 0, true⟩ (lb c_impl_Shape_kept_vi 3 Try.f87) [(0, (.ref [(.vec tN (ns))] 0)), (1, (.vec .bool (bs))), (2, (.fn 89 [])), (6, (.ptr 0 0)), (7, (.obj 1 0)), (8, (.ptr 2 0)), (24, (.int .i64 ((↑(List.length ns) : Int)))), (25, (.int .i64 0))] [(.box [.nils]), (.sl 0 (.int .i64) (List.replicate (Int.toNat (↑(List.length ns) : Int)) 0)), (.box [.nils])] (lkG gp_impl_Shape_kept_vi c_impl_Shape_kept_vi 3 Try.f87 [] K))
    (False) := by kernel_rfl
noncomputable def s_impl_Shape_kept_vi : Sm := semV [.ref tS, .cell (.slice .bool), .fn 89] [.agg [.deep tN]] (fun x => match x with | (ns, bs, _, _) => nodesB ns && (Nat.beq bs.length ns.length && decide (ns.length ≤ 16))) fun x => match x with | (ns, bs, _, _) => ((keptV ns bs, ()), ())
theorem ok_impl_Shape_kept_vi : FnOkL Try.prog 87 s_impl_Shape_kept_vi := fnOkO_give (fnOkO_runG (C := c_impl_Shape_kept_vi) gp_impl_Shape_kept_vi rfl mixed (.cons ok_impl_ruleOf (.cons ok_impl_itself .nil)) .nil (.cons ok_impl_cloneNode .nil) Try.func87 (by kernel_rfl)) rfl fun (x : ((ShapeD) × (List Bool) × Unit × Unit)) wf hg K h => by
  obtain ⟨ns, bs, ⟨⟩, ⟨⟩⟩ := x
  replace hg : (nodesB ns && (Nat.beq bs.length ns.length && decide (ns.length ≤ 16))) = true := hg
  replace h : K (tup (valRs [.agg [.deep tN]] (((keptV ns bs, ()), ())) 0)) (thRs [.agg [.deep tN]] (((keptV ns bs, ()), ()))) := h
  rw [w_impl_Shape_kept_vi ns bs K]
  simp only [Bool.and_eq_true, decide_eq_true_eq, Nat.beq_eq] at hg
  obtain ⟨hn, hbl, hl16⟩ := hg
  have h8 : (8 : Int) * (ns.length : Int) ≤ 281474976710656 := by omega
  refine cond_yes (by simp only [Bool.and_eq_true, decide_eq_true_eq]; exact ⟨by omega, Int.le_refl _, h8⟩) ?_
  simp only [Int.toNat_natCast]
  unfold keptV at h
  refine loop_run (σ := Nat) (fun i => fr_impl_Shape_kept_vi_3 ns bs [] [] ns.length i 0) (fun i => kpH (kpGo ns bs i)) (fun i => i ≤ ns.length) (fun i => ns.length - i) ?_ 0 (Nat.zero_le _)
  intro i hi Kn hk
  obtain ⟨l1, l2⟩ := kp_len ns bs i
  have step : i < ns.length → kpGo ns bs (i + 1) = kpStep ns bs i (kpGo ns bs i) := fun _ => rfl
  have get2 : ∀ (pl : List Int) (c : Int), 0 ≤ c ∧ c < pl.length → pl[c.toNat]? = some (dI pl c) := by
    intro pl c hc
    unfold dI
    rw [get_lt (show c.toNat < pl.length by omega)]
    rfl
  by_cases hlt : i < ns.length
  · have next := hk (i + 1) hlt (by omega)
    rw [step hlt] at next
    obtain ⟨e, hb⟩ := nodes_at hn (i := (i : Int)) (by omega) (by omega)
    have hib : i < bs.length := by rw [hbl]; exact hlt
    have hbi := get_lt hib
    unfold kpStep at next
    rw [hbi] at next
    rw [Int.toNat_natCast] at e
    generalize kpGo ns bs i = q at *
    obtain ⟨pl, out⟩ := q
    generalize nodeAt ns (i : Int) = nd at *
    obtain ⟨k, a, c, xs⟩ := nd
    obtain ⟨b1, b2, b3⟩ := nodeB_parts hb
    have hk0 := nums_isK b1
    have hxl := nums_len b1
    have hkn : kindN k ≤ 4 := by rcases kinds hk0 with r | r | r | r | r | r | r | r | r | r | r | r | r | r | r | r | r <;> subst r <;> decide
    have hw : IntKind.i64.wrap ((i : Int) + 1) = (i : Int) + 1 := i64_of (by omega) (by omega)
    simp only at l1 l2 next ⊢
    cases out with
    | nil =>
      rw [kpH_nil]
      refine Eq.mpr (r_impl_Shape_kept_vi_3_0 ns bs pl [] ns.length i Kn K) ?_
      simp only [d_lt hlt, d_0, Int.toNat_natCast, cond_true, hbi, e, hw, get_lt (show i < pl.length by omega), blt_t (show i < pl.length by omega), Bool.and_self, List.length_set, d_t (show xs.length ≤ 1048576 by omega), kidsC0 hk0, kidsC1 hk0]
      cases hx : bs[i]'hib with
      | false =>
        rw [hx] at next
        exact next
      | true =>
        rw [hx] at next
        simp only [Option.getD_some, cond_true] at next
        simp only [Bool.not_true, cond_false]
        have gs := get2 (pl.set i 0)
        rw [List.length_set] at gs
        unfold keepN at next
        rcases kind_cases a c hk0 with ⟨q1, q2, q3⟩ | ⟨q1, q2, q3⟩ | ⟨q1, q2, q3⟩ <;> rw [q3] at b3 <;> simp only [q1, q2, Bool.not_true, Bool.not_false, cond_true, cond_false, List.nil_append] at next ⊢
        · exact next
        · have k1 := b3 a (by simp)
          simp only [d_t k1.1, blt_t (show a.toNat < pl.length by omega), Bool.and_self, cond_true, gs a ⟨k1.1, by omega⟩]
          exact next
        · have k1 := b3 a (by simp)
          have k2 := b3 c (by simp)
          simp only [d_t k1.1, blt_t (show a.toNat < pl.length by omega), Bool.and_self, cond_true, gs a ⟨k1.1, by omega⟩, d_t k2.1, blt_t (show c.toNat < pl.length by omega), gs c ⟨k2.1, by omega⟩]
          exact next
    | cons o os =>
      refine Eq.mpr (r_impl_Shape_kept_vi_3_1 ns bs pl (o :: os) ns.length i Kn K) ?_
      generalize hout : o :: os = out at *
      simp only [d_lt hlt, d_0, Int.toNat_natCast, cond_true, hbi, e, hw, get_lt (show i < pl.length by omega), blt_t (show i < pl.length by omega), Bool.and_self, List.length_set, d_t (show xs.length ≤ 1048576 by omega), kidsC0 hk0, kidsC1 hk0, d_t (show (out.length + 1) * 48 ≤ 140737488355328 by omega)]
      cases hx : bs[i]'hib with
      | false =>
        rw [hx] at next
        simp only [Option.getD_some, cond_false] at next
        rw [← hout] at next ⊢
        exact next
      | true =>
        rw [hx] at next
        simp only [Option.getD_some, cond_true] at next
        simp only [Bool.not_true, cond_false]
        have gs := get2 (pl.set i (out.length : Int))
        rw [List.length_set] at gs
        rw [kpH_app] at next
        have next2 := next
        unfold keepN at next2
        clear next
        rcases kind_cases a c hk0 with ⟨q1, q2, q3⟩ | ⟨q1, q2, q3⟩ | ⟨q1, q2, q3⟩ <;> rw [q3] at b3 <;> simp only [q1, q2, Bool.not_true, Bool.not_false, cond_true, cond_false] at next2 ⊢
        · exact next2
        · have k1 := b3 a (by simp)
          simp only [d_t k1.1, blt_t (show a.toNat < pl.length by omega), Bool.and_self, cond_true, gs a ⟨k1.1, by omega⟩]
          exact next2
        · have k1 := b3 a (by simp)
          have k2 := b3 c (by simp)
          simp only [d_t k1.1, blt_t (show a.toNat < pl.length by omega), Bool.and_self, cond_true, gs a ⟨k1.1, by omega⟩, d_t k2.1, blt_t (show c.toNat < pl.length by omega), gs c ⟨k2.1, by omega⟩]
          exact next2
  · have : i = ns.length := by omega
    subst this
    generalize kpGo ns bs ns.length = q at *
    obtain ⟨pl, out⟩ := q
    simp only at h ⊢
    cases out with
    | nil =>
      refine Eq.mpr (r_impl_Shape_kept_vi_3_0 ns bs pl [] ns.length ns.length Kn K) ?_
      rw [d_nlt hlt]
      exact h
    | cons o os =>
      refine Eq.mpr (r_impl_Shape_kept_vi_3_1 ns bs pl (o :: os) ns.length ns.length Kn K) ?_
      rw [d_nlt hlt]
      exact h

theorem belGo_len (ns : ShapeD) : ∀ (i : Nat) (bs : List Bool), (belGo ns i bs).length = bs.length
  | 0, _ => rfl
  | i + 1, bs => by
    have hs : belGo ns (i + 1) bs = belGo ns i (bif (bs[i]?).getD false then markK bs (kidsN (nodeAt ns i)) else bs) := rfl
    rw [hs, belGo_len ns i]
    cases (bs[i]?).getD false with
    | true => exact markK_len _ _
    | false => rfl
theorem belV_len (ns : ShapeD) (node : Int) : (belV ns node).length = ns.length := by
  unfold belV
  rw [belGo_len, List.length_set, List.length_replicate]
--B partV List (Int × Int × Int × List Nat) → Int → List (Int × Int × Int × List Nat)
def partV (ns : ShapeD) (node : Int) : ShapeD := keptV ns (belV ns node)

/-! impl.PartOf -/
noncomputable def c_impl_PartOf_vg : Ctx := mkC Try.prog tyT [(33, s_impl_ValidShape), (84, s_impl_Shape_last), (79, s_impl_in)] [] [(88, s_impl_Shape_below_vi), (87, s_impl_Shape_kept_vi)] 19 (fun _ => none) 0 false [] true
noncomputable def gp_impl_PartOf_vg : List (List (Option Ty)) := List.map giveR [.agg [.deep tN], .cell (.imm .bool)]
theorem w_impl_PartOf_vg (ns : ShapeD) (node : Int) (K : V → Heap → Prop) : wpFnG gp_impl_PartOf_vg c_impl_PartOf_vg Try.f30 (encAs [.agg tS, .cell tI] (ns, node, ())) [] K =
  cond (!validS ns)
    (K (.tuple [(.agg [(.dob 0 0)]), (.bool false)]) [(.dp 0 0 tN ([]))])
    (cond (!inR node 0 (IntKind.wrap IntKind.i64 ((↑(List.length ns) : Int) - 1)))
      (K (.tuple [(.agg [(.dob 0 0)]), (.bool false)]) [(.dp 0 0 tN ([]))])
      (cond (nodesB ns && (inR node 0 ((↑(List.length ns) : Int) - 1) && decide (List.length ns ≤ 16)))
        (cond (nodesB ns && (Nat.beq (List.length (belV ns node)) (List.length ns) && decide (List.length ns ≤ 16)))
          (K (.tuple [(.agg [(.dob 0 0)]), (.bool true)]) [(.dp 0 0 tN (keptV ns (belV ns node)))])
          (False))
        (False))) := by kernel_rfl
noncomputable def s_impl_PartOf_vg : Sm := semV [.agg tS, .cell tI] [.agg [.deep tN], .cell (.imm .bool)] (fun x => match x with | (ns, node, _) => validS ns && inR node 0 (ns.length - 1)) fun x => match x with | (ns, node, _) => ((partV ns node, ()), true, ())
theorem ok_impl_PartOf_vg : FnOkL Try.prog 30 s_impl_PartOf_vg := fnOkO_give (fnOkO_runG (C := c_impl_PartOf_vg) gp_impl_PartOf_vg rfl mixed (.cons ok_impl_ValidShape (.cons ok_impl_Shape_last (.cons ok_impl_in .nil))) .nil (.cons ok_impl_Shape_below_vi (.cons ok_impl_Shape_kept_vi .nil)) Try.func30 (by kernel_rfl)) rfl fun (x : ((ShapeD) × (Int) × Unit)) wf hg K h => by
  obtain ⟨ns, node, ⟨⟩⟩ := x
  replace hg : (validS ns && inR node 0 (ns.length - 1)) = true := hg
  replace h : K (tup (valRs [.agg [.deep tN], .cell (.imm .bool)] (((partV ns node, ()), true, ())) 0)) (thRs [.agg [.deep tN], .cell (.imm .bool)] (((partV ns node, ()), true, ()))) := h
  rw [w_impl_PartOf_vg ns node K]
  simp only [Bool.and_eq_true] at hg
  obtain ⟨h0, h1⟩ := hg
  obtain ⟨l1, l2⟩ := valid_leng h0
  have hn := valid_nodes h0
  have hw : IntKind.i64.wrap ((ns.length : Int) - 1) = (ns.length : Int) - 1 := i64_of (by omega) (by omega)
  have hb : Nat.beq (belV ns node).length ns.length = true := by rw [belV_len]; exact Nat.beq_refl _
  rw [h0, hw, h1, hn, d_t l2, hb]
  exact h
noncomputable def s_impl_PartOf_vg_vv : Sm := semG [.agg tS, .cell tI] (fun x => match x with | (ns, node, _) => validS ns && inR node 0 (ns.length - 1)) fun x => tup (vecRs [.agg [.deep tN], .cell (.imm .bool)] (match x with | (ns, node, _) => ((partV ns node, ()), true, ())))
theorem ok_impl_PartOf_vg_vv : FnOk Try.prog 30 s_impl_PartOf_vg_vv := fnOk_of_give ok_impl_PartOf_vg.1

end Go.Proofs.Ytfhpmcdbfebflaa

/- Plain: parts of shapes: which nodes they have, that they are valid, how deep they are; leaves. -/
set_option linter.unusedVariables false
set_option linter.unusedSimpArgs false
set_option maxRecDepth 100000
namespace Go.Proofs.Ytfhpmcdbfebflaa
open Go.Ev Go.Ev.Fl

abbrev kidsAt (ns : ShapeD) (i : Nat) : List Int := kidsN (nodeAt ns (i : Int))
/-- What a tree of nodes is. -/
structure Tree (ns : ShapeD) : Prop where
  st : Stack ns [(ns.length : Int) - 1]
  lo : 1 ≤ ns.length
theorem Tree.at {ns : ShapeD} (h : Tree ns) {i : Nat} (hi : i < ns.length) : ns[i]? = some (nodeAt ns i) ∧ nodeB i (nodeAt ns i) = true := by
  have e : ns[i]? = some (ns[i]'hi) := get_lt hi
  have en : nodeAt ns (i : Int) = ns[i]'hi := by unfold nodeAt; rw [Int.toNat_natCast, e]; rfl
  rw [en]
  exact ⟨e, h.st.nodes i _ e⟩
theorem Tree.kid {ns : ShapeD} (h : Tree ns) {i : Nat} (hi : i < ns.length) : ∀ c ∈ kidsAt ns i, 0 ≤ c ∧ c < i := by
  have hb := (h.at hi).2
  intro c hc
  have := nodeB_kids hb c hc
  omega
theorem Tree.nodes {ns : ShapeD} (h : Tree ns) : nodesB ns = true := okUp_all fun j n _ e => h.st.nodes j n e
theorem shape_map {ns : ShapeD} : (List.range ns.length).map (fun (i : Nat) => nodeAt ns (i : Int)) = ns := by
  apply List.ext_getElem
  · rw [List.length_map, List.length_range]
  · intro i h1 h2
    rw [List.getElem_map, List.getElem_range]
    unfold nodeAt
    rw [Int.toNat_natCast, get_lt h2]
    rfl
theorem flat_range (ns : ShapeD) : ns.flatMap kidsN = (List.range ns.length).flatMap (kidsAt ns) := by
  conv => lhs; rw [← shape_map (ns := ns)]
  rw [List.flatMap_map]
theorem upTo_nodup (n : Nat) : (upTo n).Nodup := by
  unfold upTo
  exact List.Pairwise.map _ (fun a b h c => h (Int.ofNat.inj c)) List.nodup_range
theorem Tree.nodup {ns : ShapeD} (h : Tree ns) : ((List.range ns.length).flatMap (kidsAt ns) ++ [(ns.length : Int) - 1]).Nodup := by
  rw [← flat_range]
  exact (h.st.perm.nodup_iff).2 (upTo_nodup _)
/-- Each node but the root is a child. -/
theorem Tree.parent {ns : ShapeD} (h : Tree ns) {j : Nat} (hj : j + 1 < ns.length) : ∃ i, i < ns.length ∧ (j : Int) ∈ kidsAt ns i := by
  have hm : (j : Int) ∈ upTo ns.length := by
    unfold upTo
    exact List.mem_map.2 ⟨j, List.mem_range.2 (by omega), rfl⟩
  have := h.st.perm.symm.subset hm
  rw [flat_range] at this
  rcases List.mem_append.1 this with k | k
  · obtain ⟨i, hi, hc⟩ := List.mem_flatMap.1 k
    exact ⟨i, List.mem_range.1 hi, hc⟩
  · rw [List.mem_singleton] at k; omega

/-! marks -/
def mkB (bs : List Bool) (j : Nat) : Bool := (bs[j]?).getD false
theorem mk_set {bs : List Bool} {c : Nat} (hc : c < bs.length) (j : Nat) : mkB (bs.set c true) j = true ↔ mkB bs j = true ∨ j = c := by
  unfold mkB
  rw [List.getElem?_set]
  by_cases e : c = j
  · subst e
    rw [if_pos rfl, if_pos hc]
    simp
  · rw [if_neg e]
    constructor
    · exact .inl
    · rintro (k | k)
      · exact k
      · exact absurd k.symm e
theorem mk_markK : ∀ (cs : List Int) (bs : List Bool), (∀ c ∈ cs, 0 ≤ c ∧ c < bs.length) → ∀ j, mkB (markK bs cs) j = true ↔ mkB bs j = true ∨ (j : Int) ∈ cs
  | [], bs, _, j => by simp [markK]
  | c :: cs, bs, h, j => by
    have hc := h c (by simp)
    have ih := mk_markK cs (bs.set c.toNat true) (fun d hd => by rw [List.length_set]; exact h d (by simp [hd])) j
    show mkB (markK (bs.set c.toNat true) cs) j = true ↔ _
    rw [ih, mk_set (by omega), List.mem_cons]
    constructor
    · rintro ((k | k) | k)
      · exact .inl k
      · exact .inr (.inl (by omega))
      · exact .inr (.inr k)
    · rintro (k | k | k)
      · exact .inl (.inl k)
      · exact .inl (.inr (by omega))
      · exact .inr k
structure Mkd (ns : ShapeD) (node i : Nat) (bs : List Bool) : Prop where
  len : bs.length = ns.length
  top : mkB bs node = true
  le : ∀ j, mkB bs j = true → j ≤ node
  down : ∀ p, i ≤ p → p < ns.length → mkB bs p = true → ∀ c ∈ kidsAt ns p, mkB bs c.toNat = true
  up : ∀ j, mkB bs j = true → j ≠ node → ∃ p, i ≤ p ∧ p < ns.length ∧ mkB bs p = true ∧ (j : Int) ∈ kidsAt ns p
theorem Mkd.step {ns : ShapeD} (T : Tree ns) {node i : Nat} {bs : List Bool} (h : Mkd ns node (i + 1) bs) (hi : i < ns.length) : Mkd ns node i (bif mkB bs i then markK bs (kidsAt ns i) else bs) := by
  have hk := T.kid hi
  cases e : mkB bs i with
  | false =>
    simp only [cond_false]
    refine ⟨h.len, h.top, h.le, fun p hp hpl hm c hc => ?_, fun j hj hn => ?_⟩
    · rcases Nat.lt_or_ge i p with k | k
      · exact h.down p (by omega) hpl hm c hc
      · have : p = i := by omega
        subst this
        rw [e] at hm; cases hm
    · obtain ⟨p, h1, h2⟩ := h.up j hj hn
      exact ⟨p, by omega, h2⟩
  | true =>
    have K := mk_markK (kidsAt ns i) bs (fun c hc => by have := hk c hc; have := h.len; omega)
    simp only [cond_true]
    refine ⟨by rw [markK_len]; exact h.len, (K node).2 (.inl h.top), fun j hj => ?_, fun p hp hpl hm c hc => ?_, fun j hj hn => ?_⟩
    · rcases (K j).1 hj with k | k
      · exact h.le j k
      · have := hk _ k; have := h.le i e; omega
    · rw [K]
      have cr := T.kid hpl c hc
      rcases Nat.lt_or_ge i p with k | k
      · have hpm : mkB bs p = true := by
          rcases (K p).1 hm with q | q
          · exact q
          · have := hk _ q; omega
        exact .inl (h.down p (by omega) hpl hpm c hc)
      · have : p = i := by omega
        subst this
        exact .inr (by rw [Int.toNat_of_nonneg cr.1]; exact hc)
    · rcases (K j).1 hj with k | k
      · obtain ⟨p, h1, h2, h3, h4⟩ := h.up j k hn
        exact ⟨p, by omega, h2, (K p).2 (.inl h3), h4⟩
      · exact ⟨i, Nat.le_refl _, hi, (K i).2 (.inl e), k⟩
theorem Mkd.go {ns : ShapeD} (T : Tree ns) {node : Nat} : ∀ (i : Nat) {bs : List Bool}, i ≤ ns.length → Mkd ns node i bs → Mkd ns node 0 (belGo ns i bs)
  | 0, _, _, h => h
  | i + 1, bs, hi, h => Mkd.go T i (by omega) (h.step T (by omega))
theorem belV_mkd {ns : ShapeD} (T : Tree ns) {node : Nat} (hn : node < ns.length) : Mkd ns node 0 (belV ns (node : Int)) := by
  have hf : ∀ j, mkB (List.replicate ns.length false) j = false := fun j => by
    unfold mkB
    rw [List.getElem?_replicate]
    split <;> rfl
  have hs := fun j => mk_set (bs := List.replicate ns.length false) (c := node) (by rw [List.length_replicate]; exact hn) j
  have h0 : Mkd ns node ns.length ((List.replicate ns.length false).set node true) := by
    refine ⟨by rw [List.length_set, List.length_replicate], (hs node).2 (.inr rfl), fun j hj => ?_, fun p hp hpl => by omega, fun j hj hne => ?_⟩
    · rcases (hs j).1 hj with k | k
      · rw [hf] at k; cases k
      · omega
    · rcases (hs j).1 hj with k | k
      · rw [hf] at k; cases k
      · exact absurd k hne
  unfold belV
  rw [Int.toNat_natCast]
  exact Mkd.go T ns.length (Nat.le_refl _) h0

/-! what is kept -/
def ms (bs : List Bool) (i : Nat) : List Nat := (List.range i).filter (mkB bs)
def rk (bs : List Bool) (c : Int) : Int := ((ms bs c.toNat).length : Int)
def reN (bs : List Bool) (n : NodeD) : NodeD := (n.1, (bif !inR n.1 0 4 then rk bs n.2.1 else n.2.1), (bif inR n.1 5 8 then rk bs n.2.2.1 else n.2.2.1), n.2.2.2)
theorem ms_succ (bs : List Bool) (i : Nat) : ms bs (i + 1) = bif mkB bs i then ms bs i ++ [i] else ms bs i := by
  unfold ms
  rw [List.range_succ, List.filter_append, List.filter_cons, List.filter_nil]
  cases mkB bs i <;> simp
theorem kp_is {ns : ShapeD} (T : Tree ns) {bs : List Bool} (hb : bs.length = ns.length) (hd : ∀ p, p < ns.length → mkB bs p = true → ∀ c ∈ kidsAt ns p, mkB bs c.toNat = true) :
    ∀ i, i ≤ ns.length → (kpGo ns bs i).2 = (ms bs i).map (fun (j : Nat) => reN bs (nodeAt ns (j : Int))) ∧ (∀ j, j < i → mkB bs j = true → dI (kpGo ns bs i).1 (j : Int) = rk bs (j : Int))
  | 0, _ => ⟨rfl, fun j hj => by omega⟩
  | i + 1, hi => by
    obtain ⟨h1, h2⟩ := kp_is T hb hd i (by omega)
    obtain ⟨l1, l2⟩ := kp_len ns bs i
    have hs : kpGo ns bs (i + 1) = bif mkB bs i then ((kpGo ns bs i).1.set i (kpGo ns bs i).2.length, (kpGo ns bs i).2 ++ [keepN ((kpGo ns bs i).1.set i (kpGo ns bs i).2.length) (nodeAt ns i)]) else kpGo ns bs i := rfl
    rw [hs, ms_succ]
    cases e : mkB bs i with
    | false =>
      refine ⟨h1, fun j hj hm => ?_⟩
      have : j ≠ i := fun c => by rw [c, e] at hm; cases hm
      exact h2 j (by omega) hm
    | true =>
      have hlen : ((kpGo ns bs i).2.length : Int) = rk bs (i : Int) := by
        rw [h1, List.length_map]
        unfold rk
        rw [Int.toNat_natCast]
      have hset : ∀ j, j < i + 1 → mkB bs j = true → dI ((kpGo ns bs i).1.set i (kpGo ns bs i).2.length) (j : Int) = rk bs (j : Int) := by
        intro j hj hm
        unfold dI
        rw [Int.toNat_natCast, List.getElem?_set]
        by_cases c : i = j
        · subst c
          rw [if_pos rfl, if_pos (by omega)]
          exact hlen
        · rw [if_neg c]
          exact h2 j (by omega) hm
      refine ⟨?_, hset⟩
      simp only [cond_true, List.map_append, List.map_cons, List.map_nil]
      rw [h1]
      congr 2
      have hk := T.kid (i := i) (by omega)
      have hm := hd i (by omega) e
      obtain ⟨_, hb2⟩ := T.at (i := i) (by omega)
      unfold kidsAt at hk hm
      rw [h1, List.length_map] at hset
      generalize nodeAt ns (i : Int) = n at *
      obtain ⟨k, a, c, xs⟩ := n
      have hk0 := nums_isK (nodeB_parts hb2).1
      have D : ∀ d, d ∈ kids k a c → dI ((kpGo ns bs i).1.set i ((ms bs i).length : Int)) d = rk bs d := by
        intro d hdk
        have r := hk d hdk
        have := hset d.toNat (by omega) (hm d hdk)
        rw [Int.toNat_of_nonneg r.1] at this
        exact this
      rw [List.length_map]
      unfold keepN reN
      simp only
      rcases kind_cases a c hk0 with ⟨q1, q2, q3⟩ | ⟨q1, q2, q3⟩ | ⟨q1, q2, q3⟩ <;> rw [q3] at D <;> simp only [q1, q2, Bool.not_true, Bool.not_false, cond_true, cond_false]
      · rw [D a (by simp)]
      · rw [D a (by simp), D c (by simp)]
theorem part_is {ns : ShapeD} (T : Tree ns) {node : Nat} (hn : node < ns.length) : partV ns (node : Int) = (ms (belV ns (node : Int)) ns.length).map (fun (j : Nat) => reN (belV ns (node : Int)) (nodeAt ns (j : Int))) := by
  have M := belV_mkd T hn
  exact (kp_is T M.len (fun p hp hm c hc => M.down p (Nat.zero_le _) hp hm c hc) ns.length (Nat.le_refl _)).1

/-! parts are trees -/
theorem ms_mem {bs : List Bool} {n j : Nat} : j ∈ ms bs n ↔ j < n ∧ mkB bs j = true := by
  unfold ms
  rw [List.mem_filter, List.mem_range]
theorem ms_le {bs : List Bool} : ∀ {a b : Nat}, a ≤ b → (ms bs a).length ≤ (ms bs b).length := by
  intro a b h
  induction h with
  | refl => exact Nat.le_refl _
  | step h ih =>
    rename_i m
    rw [ms_succ]
    cases mkB bs m with
    | true => simp only [cond_true, List.length_append]; omega
    | false => exact ih
theorem ms_lt {bs : List Bool} {a b : Nat} (h : a < b) (hm : mkB bs a = true) : (ms bs a).length < (ms bs b).length := by
  have h1 := ms_le (bs := bs) (show a + 1 ≤ b from h)
  rw [ms_succ, hm] at h1
  simp only [cond_true, List.length_append, List.length_singleton] at h1
  omega
/-- The places of what is kept. -/
theorem ms_rk (bs : List Bool) : ∀ n, (ms bs n).map (fun (j : Nat) => rk bs (j : Int)) = upTo (ms bs n).length
  | 0 => rfl
  | n + 1 => by
    rw [ms_succ]
    cases e : mkB bs n with
    | false => exact ms_rk bs n
    | true =>
      simp only [cond_true, List.map_append, List.map_cons, List.map_nil, List.length_append, List.length_singleton]
      rw [ms_rk bs n, upTo_succ]
      unfold rk
      rw [Int.toNat_natCast]
theorem kids_reN (bs : List Bool) {n : NodeD} (hk : isK n.1 = true) : kidsN (reN bs n) = (kidsN n).map (rk bs) := by
  obtain ⟨k, a, c, xs⟩ := n
  unfold reN
  simp only
  rcases kind_cases a c hk with ⟨q1, q2, q3⟩ | ⟨q1, q2, q3⟩ | ⟨q1, q2, q3⟩ <;> simp only [q1, q2, Bool.not_true, Bool.not_false, cond_true, cond_false]
  · show kids k a c = (kids k a c).map (rk bs)
    rw [q3]; rfl
  · show kids k (rk bs a) c = (kids k a c).map (rk bs)
    rw [q3]
    rcases kind_cases (rk bs a) c hk with ⟨p1, p2, p3⟩ | ⟨p1, p2, p3⟩ | ⟨p1, p2, p3⟩
    · rw [p1] at q1; cases q1
    · rw [p3]; rfl
    · rw [p2] at q2; cases q2
  · show kids k (rk bs a) (rk bs c) = (kids k a c).map (rk bs)
    rw [q3]
    rcases kind_cases (rk bs a) (rk bs c) hk with ⟨p1, p2, p3⟩ | ⟨p1, p2, p3⟩ | ⟨p1, p2, p3⟩
    · rw [p1] at q1; cases q1
    · rw [p2] at q2; cases q2
    · rw [p3]; rfl
theorem ax_reN {k a c a' c' : Int} (hk : isK k = true) (h0 : inR k 0 4 = true → a' = a) (h5 : inR k 5 8 = false → c' = c) (h : axB k a c = true) : axB k a' c' = true := by
  rcases kind_ax a c hk with ⟨q1, q2, q3⟩ | ⟨q1, q2, q3, q4, q5⟩ | ⟨q1, q2, q3, q4, q5⟩ | ⟨q1, q2, q3, q4⟩
  · have q5 : inR k 5 8 = false := by rcases kinds hk with r | r | r | r | r | r | r | r | r | r | r | r | r | r | r | r | r <;> subst r <;> first | rfl | cases q1
    rw [h0 q1, h5 q5]; exact h
  · rw [h5 q2]
    rcases kind_ax a' c hk with ⟨p1, p2, p3⟩ | ⟨p1, p2, p3, p4, p5⟩ | ⟨p1, p2, p3, p4, p5⟩ | ⟨p1, p2, p3, p4⟩
    · rw [p1] at q1; cases q1
    · rw [p5, ← q5]; exact h
    · rw [p3] at q3; cases q3
    · exact p4
  · rw [h5 q2]
    rcases kind_ax a' c hk with ⟨p1, p2, p3⟩ | ⟨p1, p2, p3, p4, p5⟩ | ⟨p1, p2, p3, p4, p5⟩ | ⟨p1, p2, p3, p4⟩
    · rw [p1] at q1; cases q1
    · rw [p3] at q3; cases q3
    · rw [p5, ← q5]; exact h
    · exact p4
  · rcases kind_ax a' c' hk with ⟨p1, p2, p3⟩ | ⟨p1, p2, p3, p4, p5⟩ | ⟨p1, p2, p3, p4, p5⟩ | ⟨p1, p2, p3, p4⟩
    · rw [p1] at q1; cases q1
    · rw [p2] at q2; cases q2
    · rw [p2] at q2; cases q2
    · exact p4
theorem Tree.isK {ns : ShapeD} (T : Tree ns) {i : Nat} (hi : i < ns.length) : isK (nodeAt ns (i : Int)).1 = true := nodeB_isK (T.at hi).2
theorem flatMap_map_congr {α β γ : Type} {xs : List α} {f : α → List β} {g : β → γ} {h : α → List γ} (e : ∀ x ∈ xs, h x = (f x).map g) : xs.flatMap h = (xs.flatMap f).map g := by
  induction xs with
  | nil => rfl
  | cons x xs ih =>
    rw [List.flatMap_cons, List.flatMap_cons, List.map_append, e x (by simp), ih fun y hy => e y (by simp [hy])]
theorem flatMap_sub {α β : Type} {f : α → List β} {xs ys : List α} (h : xs.Sublist ys) : (xs.flatMap f).Sublist (ys.flatMap f) := by
  induction h with
  | slnil => exact .slnil
  | cons a h ih => rw [List.flatMap_cons]; exact ih.trans (List.sublist_append_right _ _)
  | cons_cons a h ih => rw [List.flatMap_cons, List.flatMap_cons]; exact ih.append_left _
/-- A part of a tree is a tree. -/
theorem part_tree {ns : ShapeD} (T : Tree ns) {node : Nat} (hn : node < ns.length) : Tree (partV ns (node : Int)) ∧ (partV ns (node : Int)).length = (ms (belV ns (node : Int)) ns.length).length ∧
    ((ms (belV ns (node : Int)) ns.length).length : Int) - 1 = rk (belV ns (node : Int)) (node : Int) := by
  have M := belV_mkd T hn
  have P := part_is T hn
  generalize belV ns (node : Int) = bs at *
  generalize partV ns (node : Int) = ps at *
  have hlen : ps.length = (ms bs ns.length).length := by rw [P, List.length_map]
  -- nothing is kept behind the node
  have hroot : (ms bs ns.length).length = (ms bs node).length + 1 := by
    have e1 : ms bs (node + 1) = ms bs node ++ [node] := by rw [ms_succ, M.top]; rfl
    have e2 : ∀ d, (ms bs (node + 1 + d)) = ms bs (node + 1) := by
      intro d
      induction d with
      | zero => rfl
      | succ d ih =>
        rw [show node + 1 + (d + 1) = (node + 1 + d) + 1 by omega, ms_succ]
        have : mkB bs (node + 1 + d) = false := by
          cases e : mkB bs (node + 1 + d) with
          | false => rfl
          | true => have := M.le _ e; omega
        rw [this]
        exact ih
    have := e2 (ns.length - (node + 1))
    rw [show node + 1 + (ns.length - (node + 1)) = ns.length by omega] at this
    rw [this, e1, List.length_append, List.length_singleton]
  have hrk : ((ms bs ns.length).length : Int) - 1 = rk bs (node : Int) := by
    unfold rk
    rw [Int.toNat_natCast]
    omega
  refine ⟨⟨⟨?_, ?_, ?_⟩, by omega⟩, hlen, hrk⟩
  · -- nodes
    intro j n hj
    rw [P, List.getElem?_map] at hj
    cases e : (ms bs ns.length)[j]? with
    | none => rw [e] at hj; cases hj
    | some i =>
      rw [e] at hj
      have hn' : reN bs (nodeAt ns (i : Int)) = n := Option.some.inj hj
      subst hn'
      have hi := ms_mem.1 (List.mem_of_getElem? e)
      have hji : (j : Int) = rk bs (i : Int) := by
        have h1 := ms_rk bs ns.length
        have h2 : ((ms bs ns.length).map (fun (j : Nat) => rk bs (j : Int)))[j]? = some (rk bs (i : Int)) := by rw [List.getElem?_map, e]; rfl
        have hlt := lt_of_get e
        rw [h1] at h2
        unfold upTo at h2
        rw [List.getElem?_map, List.getElem?_eq_getElem (by rw [List.length_range]; exact hlt), List.getElem_range] at h2
        exact Option.some.inj h2
      obtain ⟨_, hb⟩ := T.at hi.1
      have hk := T.isK hi.1
      have kd := T.kid hi.1
      have dn := M.down i (Nat.zero_le _) hi.1 hi.2
      have hkid := kids_reN bs hk
      unfold kidsAt at kd dn
      generalize nodeAt ns (i : Int) = nd at *
      obtain ⟨k, a, c, xs⟩ := nd
      obtain ⟨b1, b2, b3⟩ := nodeB_parts hb
      have hax : axB k (reN bs (k, a, c, xs)).2.1 (reN bs (k, a, c, xs)).2.2.1 = true := by
        refine ax_reN hk (fun q => ?_) (fun q => ?_) b2
        · unfold reN; simp only [q, Bool.not_true, cond_false]
        · unfold reN; simp only [q, cond_false]
      unfold nodeB
      rw [hkid]
      have hnum : numsB (reN bs (k, a, c, xs)).1 (reN bs (k, a, c, xs)).2.2.2 = true := b1
      rw [hnum, show axB (reN bs (k, a, c, xs)).1 (reN bs (k, a, c, xs)).2.1 (reN bs (k, a, c, xs)).2.2.1 = true from hax]
      simp only [Bool.true_and]
      rw [List.all_eq_true]
      intro d hd
      obtain ⟨d0, hd0, rfl⟩ := List.mem_map.1 hd
      have r := kd d0 hd0
      have m := dn d0 hd0
      have := ms_lt (bs := bs) (show d0.toNat < i by omega) m
      rw [hji]
      unfold rk
      rw [Int.toNat_natCast]
      exact inR_iff.2 (by omega)
  · -- children
    rw [P]
    have e1 : (List.map (fun (j : Nat) => reN bs (nodeAt ns (j : Int))) (ms bs ns.length)).flatMap kidsN = ((ms bs ns.length).flatMap (kidsAt ns)).map (rk bs) := by
      rw [List.flatMap_map]
      exact flatMap_map_congr fun i hi => kids_reN bs (T.isK (ms_mem.1 hi).1)
    rw [e1, List.length_map, hrk, show [rk bs (node : Int)] = [(node : Int)].map (rk bs) from rfl, ← List.map_append, ← ms_rk]
    have e2 : (ms bs ns.length).map (fun (j : Nat) => rk bs (j : Int)) = ((ms bs ns.length).map Int.ofNat).map (rk bs) := by rw [List.map_map]; rfl
    rw [e2]
    refine List.Perm.map _ ?_
    have sub : (ms bs ns.length).Sublist (List.range ns.length) := List.filter_sublist
    have nd1 : ((ms bs ns.length).flatMap (kidsAt ns)).Nodup := by
      have h0 := T.nodup
      have h1 : ((List.range ns.length).flatMap (kidsAt ns)).Nodup := (List.nodup_append.1 h0).1
      exact h1.sublist (flatMap_sub sub)
    have nd2 : ((ms bs ns.length).map Int.ofNat).Nodup := List.Pairwise.map _ (fun a b h c => h (Int.ofNat.inj c)) (List.nodup_range.sublist sub)
    have hnot : ∀ c ∈ (ms bs ns.length).flatMap (kidsAt ns), c < (node : Int) := by
      intro c hc
      obtain ⟨i, hi, hci⟩ := List.mem_flatMap.1 hc
      have hm := ms_mem.1 hi
      have := T.kid hm.1 c hci
      have := M.le i hm.2
      omega
    have nd3 : ((ms bs ns.length).flatMap (kidsAt ns) ++ [(node : Int)]).Nodup := by
      rw [List.nodup_append]
      refine ⟨nd1, by simp, fun c hc d hd => ?_⟩
      rw [List.mem_singleton.1 hd]
      have := hnot c hc
      omega
    refine (List.perm_ext_iff_of_nodup nd3 nd2).2 fun c => ?_
    rw [List.mem_append, List.mem_singleton, List.mem_map]
    constructor
    · rintro (h | h)
      · obtain ⟨i, hi, hci⟩ := List.mem_flatMap.1 h
        have hm := ms_mem.1 hi
        have r := T.kid hm.1 c hci
        exact ⟨c.toNat, ms_mem.2 ⟨by omega, M.down i (Nat.zero_le _) hm.1 hm.2 c hci⟩, Int.toNat_of_nonneg r.1⟩
      · exact ⟨node, ms_mem.2 ⟨hn, M.top⟩, h.symm⟩
    · rintro ⟨j, hj, rfl⟩
      have hm := ms_mem.1 hj
      by_cases e : j = node
      · subst e; exact .inr rfl
      · obtain ⟨p, _, h2, h3, h4⟩ := M.up j hm.2 e
        exact .inl (List.mem_flatMap.2 ⟨p, ms_mem.2 ⟨h2, h3⟩, h4⟩)
  · intro _
    rfl

/-- The part of the root is the tree. -/
theorem root_all {ns : ShapeD} (T : Tree ns) : ∀ (d : Nat), d < ns.length → mkB (belV ns ((ns.length - 1 : Nat) : Int)) (ns.length - 1 - d) = true := by
  have lo := T.lo
  have M := belV_mkd T (node := ns.length - 1) (by omega)
  intro d
  induction d using Nat.strongRecOn with
  | _ d ih =>
    intro hd
    by_cases e : d = 0
    · subst e
      exact M.top
    · obtain ⟨p, hp, hc⟩ := T.parent (j := ns.length - 1 - d) (by omega)
      have r := T.kid hp _ hc
      have := ih (ns.length - 1 - p) (by omega) (by omega)
      rw [show ns.length - 1 - (ns.length - 1 - p) = p by omega] at this
      have h2 := M.down p (Nat.zero_le _) hp this _ hc
      rwa [Int.toNat_natCast] at h2
theorem part_root {ns : ShapeD} (T : Tree ns) : partV ns ((ns.length : Int) - 1) = ns := by
  have lo := T.lo
  have e : ((ns.length : Int) - 1) = ((ns.length - 1 : Nat) : Int) := by omega
  rw [e, part_is T (by omega)]
  have all : ∀ j, j < ns.length → mkB (belV ns ((ns.length - 1 : Nat) : Int)) j = true := fun j hj => by
    have := root_all T (ns.length - 1 - j) (by omega)
    rwa [show ns.length - 1 - (ns.length - 1 - j) = j by omega] at this
  generalize belV ns ((ns.length - 1 : Nat) : Int) = bs at *
  have hms : ∀ n, n ≤ ns.length → ms bs n = List.range n := by
    intro n
    induction n with
    | zero => intro _; rfl
    | succ n ih =>
      intro h
      rw [ms_succ, all n (by omega), ih (by omega), List.range_succ]
      rfl
  rw [hms _ (Nat.le_refl _)]
  conv => rhs; rw [← shape_map (ns := ns)]
  refine List.map_congr_left fun i hi => ?_
  have hi := List.mem_range.1 hi
  have hrk : ∀ c : Int, 0 ≤ c ∧ c < i → rk bs c = c := fun c hc => by
    unfold rk
    rw [hms _ (by omega), List.length_range]
    omega
  have hk := T.isK hi
  have kd := T.kid hi
  unfold kidsAt at kd
  generalize nodeAt ns (i : Int) = nd at *
  obtain ⟨k, a, c, xs⟩ := nd
  unfold reN
  simp only
  have kd : ∀ d ∈ kids k a c, 0 ≤ d ∧ d < i := kd
  rcases kind_cases a c hk with ⟨q1, q2, q3⟩ | ⟨q1, q2, q3⟩ | ⟨q1, q2, q3⟩ <;> rw [q3] at kd <;> simp only [q1, q2, Bool.not_true, Bool.not_false, cond_true, cond_false]
  · rw [hrk a (kd a (by simp))]
  · rw [hrk a (kd a (by simp)), hrk c (kd c (by simp))]

/-! depths -/
def dp (ns : ShapeD) (i : Nat) : Int := dMax (dpL ns i) (kidsAt ns i) + 1
theorem dpL_get (ns : ShapeD) : ∀ (n i : Nat), i < n → (dpL ns n)[i]? = some (dp ns i)
  | n + 1, i, h => by
    have hs : dpL ns (n + 1) = dpL ns n ++ [dp ns n] := rfl
    have hl := dpL_len ns n
    rw [hs]
    by_cases e : i = n
    · subst e
      rw [List.getElem?_append_right (by omega), hl, Nat.sub_self]
      rfl
    · rw [List.getElem?_append_left (by omega)]
      exact dpL_get ns n i (by omega)
theorem dI_dp {ns : ShapeD} {n i : Nat} (h : i < n) : dI (dpL ns n) (i : Int) = dp ns i := by
  unfold dI
  rw [Int.toNat_natCast, dpL_get ns n i h]
  rfl
theorem dMax_ge {ds cs : List Int} {c : Int} (hc : c ∈ cs) : dI ds c ≤ dMax ds cs := by
  have go : ∀ (cs : List Int) (m : Int), m ≤ cs.foldl (fun m c => max m (dI ds c)) m ∧ ∀ c ∈ cs, dI ds c ≤ cs.foldl (fun m c => max m (dI ds c)) m := by
    intro cs
    induction cs with
    | nil => intro m; exact ⟨Int.le_refl _, fun c hc => by cases hc⟩
    | cons d cs ih =>
      intro m
      obtain ⟨h1, h2⟩ := ih (max m (dI ds d))
      refine ⟨Int.le_trans (Int.le_max_left _ _) h1, fun c hc => ?_⟩
      rcases List.mem_cons.1 hc with rfl | hc
      · exact Int.le_trans (Int.le_max_right _ _) h1
      · exact h2 c hc
  exact (go cs 0).2 c hc
theorem dMax_congr {ds es cs : List Int} {g : Int → Int} (h : ∀ c ∈ cs, dI ds (g c) = dI es c) : dMax ds (cs.map g) = dMax es cs := by
  unfold dMax
  rw [List.foldl_map]
  have go : ∀ (cs : List Int) (m : Int), (∀ c ∈ cs, dI ds (g c) = dI es c) → cs.foldl (fun m c => max m (dI ds (g c))) m = cs.foldl (fun m c => max m (dI es c)) m := by
    intro cs
    induction cs with
    | nil => intro m _; rfl
    | cons d cs ih =>
      intro m h
      rw [List.foldl_cons, List.foldl_cons, h d (by simp)]
      exact ih _ fun c hc => h c (by simp [hc])
  exact go cs 0 h
theorem dp_range (ns : ShapeD) (i : Nat) : 1 ≤ dp ns i ∧ dp ns i ≤ (i : Int) + 1 := by
  have := dMax_range (dpL_range ns i) (cs := kidsAt ns i)
  unfold dp
  omega
theorem dp_kid {ns : ShapeD} (T : Tree ns) {i : Nat} (hi : i < ns.length) {c : Nat} (hc : (c : Int) ∈ kidsAt ns i) : dp ns c + 1 ≤ dp ns i := by
  have r := T.kid hi _ hc
  have h := dMax_ge (ds := dpL ns i) hc
  rw [dI_dp (show c < i by omega)] at h
  unfold dp at h ⊢
  omega
theorem dp_root {ns : ShapeD} (T : Tree ns) : ∀ (d : Nat), d < ns.length → dp ns (ns.length - 1 - d) ≤ dp ns (ns.length - 1) := by
  intro d
  induction d using Nat.strongRecOn with
  | _ d ih =>
    intro hd
    by_cases e : d = 0
    · subst e; exact Int.le_refl _
    · obtain ⟨p, hp, hc⟩ := T.parent (j := ns.length - 1 - d) (by omega)
      have r := T.kid hp _ hc
      have := ih (ns.length - 1 - p) (by omega) (by omega)
      rw [show ns.length - 1 - (ns.length - 1 - p) = p by omega] at this
      have := dp_kid T hp hc
      omega
theorem dep_is {ns : ShapeD} (T : Tree ns) : depV ns = dp ns (ns.length - 1) := by
  have lo := T.lo
  unfold depV
  rw [show ((ns.length : Int) - 1) = ((ns.length - 1 : Nat) : Int) by omega, dI_dp (by omega)]
/-- A kept node is as deep as it was. -/
theorem dp_part {ns : ShapeD} (T : Tree ns) {node : Nat} (hn : node < ns.length) : ∀ i, i < ns.length → mkB (belV ns (node : Int)) i = true → dp (partV ns (node : Int)) (rk (belV ns (node : Int)) (i : Int)).toNat = dp ns i := by
  have M := belV_mkd T hn
  have P := part_is T hn
  generalize belV ns (node : Int) = bs at *
  generalize partV ns (node : Int) = ps at *
  intro i
  induction i using Nat.strongRecOn with
  | _ i ih =>
    intro hi hm
    have hr : (rk bs (i : Int)).toNat = (ms bs i).length := by unfold rk; rw [Int.toNat_natCast, Int.toNat_natCast]
    have hnode : nodeAt ps (rk bs (i : Int)) = reN bs (nodeAt ns (i : Int)) := by
      have hpos : (ms bs ns.length)[(ms bs i).length]? = some i := by
        have e1 : ms bs (i + 1) = ms bs i ++ [i] := by rw [ms_succ, hm]; rfl
        have e2 : ∀ d, ∃ zs, ms bs (i + 1 + d) = ms bs (i + 1) ++ zs := by
          intro d
          induction d with
          | zero => exact ⟨[], by simp⟩
          | succ d ih =>
            obtain ⟨zs, hz⟩ := ih
            rw [show i + 1 + (d + 1) = (i + 1 + d) + 1 by omega, ms_succ, hz]
            cases mkB bs (i + 1 + d) with
            | true => exact ⟨zs ++ [i + 1 + d], by simp⟩
            | false => exact ⟨zs, rfl⟩
        obtain ⟨zs, hz⟩ := e2 (ns.length - (i + 1))
        rw [show i + 1 + (ns.length - (i + 1)) = ns.length by omega, e1] at hz
        rw [hz, List.append_assoc]
        exact get_mid rfl
      unfold nodeAt
      rw [hr, P, List.getElem?_map, hpos]
      rfl
    unfold dp kidsAt
    rw [Int.toNat_of_nonneg (show 0 ≤ rk bs (i : Int) by unfold rk; omega), hnode, kids_reN bs (T.isK hi), hr]
    congr 1
    refine dMax_congr fun c hc => ?_
    have r := T.kid hi c hc
    have hmc := M.down i (Nat.zero_le _) hi hm c hc
    have h1 := ih c.toNat (by omega) (by omega) hmc
    have hlt := ms_lt (bs := bs) (show c.toNat < i by omega) hmc
    rw [Int.toNat_of_nonneg r.1] at h1
    have hrc : rk bs c = (((rk bs c).toNat : Nat) : Int) := by unfold rk; rw [Int.toNat_natCast]
    rw [hrc, dI_dp (by unfold rk; rw [Int.toNat_natCast]; exact hlt), h1, ← dI_dp (n := i) (show c.toNat < i by omega), Int.toNat_of_nonneg r.1]
theorem part_depth {ns : ShapeD} (T : Tree ns) {node : Nat} (hn : node < ns.length) : 1 ≤ depV (partV ns (node : Int)) ∧ depV (partV ns (node : Int)) ≤ depV ns ∧ 1 ≤ depV ns ∧ depV ns ≤ ns.length := by
  obtain ⟨T2, h1, h2⟩ := part_tree T hn
  have lo := T.lo
  have lo2 := T2.lo
  have M := belV_mkd T hn
  have hd := dp_part T hn node hn M.top
  rw [dep_is T, dep_is T2]
  have e : (partV ns (node : Int)).length - 1 = (rk (belV ns (node : Int)) (node : Int)).toNat := by omega
  rw [e, hd]
  have r1 := dp_range ns node
  have r2 := dp_range ns (ns.length - 1)
  have := dp_root T (ns.length - 1 - node) (by omega)
  rw [show ns.length - 1 - (ns.length - 1 - node) = node by omega] at this
  omega

/-! leaves -/
def pairsL (ns : ShapeD) : Nat → Nat
  | 0 => 0
  | i + 1 => bif inR (nodeAt ns (i : Int)).1 5 8 then pairsL ns i + 1 else pairsL ns i
theorem leafL_mem (ns : ShapeD) : ∀ (n : Nat) (c : Int), c ∈ leafL ns n ↔ 0 ≤ c ∧ c < n ∧ inR (nodeAt ns c).1 0 4 = true
  | 0, c => by simp [leafL]; omega
  | n + 1, c => by
    have ih := leafL_mem ns n c
    unfold leafL leafIs
    cases e : inR (nodeAt ns (n : Int)).1 0 4 with
    | true =>
      simp only [cond_true, List.mem_append, List.mem_singleton]
      rw [ih]
      constructor
      · rintro (h | h)
        · exact ⟨h.1, by omega, h.2.2⟩
        · subst h; exact ⟨by omega, by omega, e⟩
      · rintro ⟨h1, h2, h3⟩
        by_cases k : c = (n : Int)
        · exact .inr k
        · exact .inl ⟨h1, by omega, h3⟩
    | false =>
      simp only [cond_false]
      rw [ih]
      constructor
      · rintro ⟨h1, h2, h3⟩; exact ⟨h1, by omega, h3⟩
      · rintro ⟨h1, h2, h3⟩
        refine ⟨h1, ?_, h3⟩
        by_cases k : c = (n : Int)
        · subst k; rw [e] at h3; cases h3
        · omega
/-- A leaf more than pairs. -/
theorem leaf_count {ns : ShapeD} (T : Tree ns) : (leafL ns ns.length).length = pairsL ns ns.length + 1 := by
  have key : ∀ n, n ≤ ns.length → (((List.range n).flatMap (kidsAt ns)).length : Int) + (leafL ns n).length = n + pairsL ns n := by
    intro n
    induction n with
    | zero => intro _; simp [leafL, pairsL]
    | succ n ih =>
      intro h
      have ih := ih (by omega)
      have hk := T.isK (i := n) (by omega)
      rw [List.range_succ, List.flatMap_append, List.length_append, List.flatMap_singleton]
      unfold leafL pairsL leafIs kidsAt
      generalize nodeAt ns (n : Int) = nd at *
      obtain ⟨k, a, c, xs⟩ := nd
      show (((((List.range n).flatMap (kidsAt ns)).length + (kids k a c).length : Nat) : Int)) + _ = _
      rcases kind_cases a c hk with ⟨q1, q2, q3⟩ | ⟨q1, q2, q3⟩ | ⟨q1, q2, q3⟩ <;> rw [q3] <;> simp only [q1, q2, cond_true, cond_false, List.length_append, List.length_cons, List.length_nil] <;> omega
  have h1 := key ns.length (Nat.le_refl _)
  have h2 := T.st.perm.length_eq
  rw [flat_range, List.length_append, List.length_singleton] at h2
  unfold upTo at h2
  rw [List.length_map, List.length_range] at h2
  omega
theorem leafAt_mem {ns : ShapeD} (T : Tree ns) : ∀ (N : Nat) (i : Int) (p : V3), 0 ≤ i → i < ns.length → i < N → 0 ≤ leafAt N ns i p ∧ leafAt N ns i p < ns.length ∧ inR (nodeAt ns (leafAt N ns i p)).1 0 4 = true
  | 0, i, p, h0, h1, h2 => by omega
  | N + 1, i, p, h0, h1, h2 => by
    have hs : leafAt (N + 1) ns i p = bif inR (nodeAt ns i).1 0 4 then i else
      bif inR (nodeAt ns i).1 5 8 then leafAt N ns (bif secV (nodeAt ns i).1 (distV 17 ns (nodeAt ns i).2.1 p) (distV 17 ns (nodeAt ns i).2.2.1 p) then (nodeAt ns i).2.2.1 else (nodeAt ns i).2.1) p else
      leafAt N ns (nodeAt ns i).2.1 (pointN (nodeAt ns i).1 (nodeAt ns i).2.2.1 (nodeAt ns i).2.2.2 p) := rfl
    obtain ⟨m, rfl⟩ : ∃ m : Nat, i = (m : Int) := ⟨i.toNat, by omega⟩
    have hk := T.isK (i := m) (by omega)
    have kd := T.kid (i := m) (by omega)
    rw [hs]
    cases q0 : inR (nodeAt ns (m : Int)).1 0 4 with
    | true => exact ⟨by simp only [cond_true]; omega, by simp only [cond_true]; exact h1, by simp only [cond_true]; exact q0⟩
    | false =>
      simp only [cond_false]
      have kid : ∀ d ∈ kidsAt ns m, 0 ≤ d ∧ d < (m : Int) := kd
      unfold kidsAt at kid
      rcases kind_cases (nodeAt ns (m : Int)).2.1 (nodeAt ns (m : Int)).2.2.1 hk with ⟨q1, q2, q3⟩ | ⟨q1, q2, q3⟩ | ⟨q1, q2, q3⟩
      · rw [q0] at q1; cases q1
      · have e : kidsN (nodeAt ns (m : Int)) = [(nodeAt ns (m : Int)).2.1] := q3
        rw [e] at kid
        have r := kid _ (List.mem_singleton.2 rfl)
        rw [q2, cond_false]
        exact leafAt_mem T N _ _ r.1 (by omega) (by omega)
      · have e : kidsN (nodeAt ns (m : Int)) = [(nodeAt ns (m : Int)).2.1, (nodeAt ns (m : Int)).2.2.1] := q3
        rw [e] at kid
        have r1 := kid (nodeAt ns (m : Int)).2.1 (by simp)
        have r2 := kid (nodeAt ns (m : Int)).2.2.1 (by simp)
        rw [q2, cond_true]
        cases secV (nodeAt ns (m : Int)).1 (distV 17 ns (nodeAt ns (m : Int)).2.1 p) (distV 17 ns (nodeAt ns (m : Int)).2.2.1 p) with
        | true => exact leafAt_mem T N _ _ r2.1 (by simp only [cond_true]; omega) (by simp only [cond_true]; omega)
        | false => exact leafAt_mem T N _ _ r1.1 (by simp only [cond_false]; omega) (by simp only [cond_false]; omega)
theorem leaV_mem {ns : ShapeD} (T : Tree ns) (h16 : ns.length ≤ 16) (p : V3) : leaV ns p ∈ leafL ns ns.length := by
  have lo := T.lo
  obtain ⟨h1, h2, h3⟩ := leafAt_mem T 16 ((ns.length : Int) - 1) p (by omega) (by omega) (by omega)
  exact (leafL_mem ns ns.length _).2 ⟨h1, h2, h3⟩

end Go.Proofs.Ytfhpmcdbfebflaa

/- The law of leaves and parts. -/
set_option linter.unusedVariables false
set_option linter.unusedSimpArgs false
set_option maxRecDepth 100000
namespace Go.Proofs.Ytfhpmcdbfebflaa
open Go.Ev Go.Ev.Fl

theorem shape_tree {s : SrcD} (hb : bytes s.1) : Tree (shapeV s) := ⟨(shape_stack hb).1, (shape_stack hb).2⟩

/-! laws.FnLeaves -/
noncomputable def a_laws_FnLeaves : Nat → Option Ann := fun n => bif Nat.beq n 16 then some ⟨[5,7,8,12,20,21],0,true⟩ else bif Nat.beq n 22 then some ⟨[5,8,12,20,22,23],0,true⟩ else none
noncomputable def c_laws_FnLeaves : Ctx := mkC Try.prog tyT [(24, s_laws_r8Long), (25, s_spec_R8Shape), (26, s_spec_R8Point), (27, s_impl_LeavesOf), (28, s_impl_DepthOf), (29, s_impl_LeafAt), (30, s_impl_PartOf_vg_vv), (31, s_laws_r8At), (32, s_impl_SameShape), (33, s_impl_ValidShape)] [] [] 177 a_laws_FnLeaves 0 false [] false true
noncomputable def fr_laws_FnLeaves_16 (ns : ShapeD) (ls : List Int) (n lf c i : Int) : Fr := [(5, .ptr 0 0), (7, .int .i64 n), (8, .vec tI ls), (12, .int .i64 lf), (20, .int .i64 c), (21, .int .i64 i)]
noncomputable def hp_laws_FnLeaves_16 (ns : ShapeD) (ls : List Int) (n lf c i : Int) : Heap := [.box [.vec tN ns]]
theorem r_laws_FnLeaves_16 (ns : ShapeD) (ls : List Int) (n lf c i : Int) (Kn : Fr → Heap → Prop) (K : V → Heap → Prop) : round c_laws_FnLeaves ⟨[5,7,8,12,20,21],0,true⟩ (lb c_laws_FnLeaves 16 Try.f4) (fr_laws_FnLeaves_16 ns ls n lf c i) (hp_laws_FnLeaves_16 ns ls n lf c i) Kn (lk c_laws_FnLeaves 16 Try.f4 [] K) =
  cond (decide (i < n))
    (cond (decide (0 ≤ i))
      ((match ns[Int.toNat i]? with
        | some y0 => cond (decide (Prod.fst y0 ≥ 5))
          (cond (decide (0 ≤ i))
            ((match ns[Int.toNat i]? with
              | some y1 => cond (decide (Prod.fst y1 ≤ 8))
                (Kn [(5, (.ptr 0 0)), (7, (.int .i64 (n))), (8, (.vec (.int .i64) (ls))), (12, (.int .i64 (lf))), (20, (.int .i64 (IntKind.wrap IntKind.i64 (c + 1)))), (21, (.int .i64 (IntKind.wrap IntKind.i64 (i + 1))))] [(.box [(.vec tN (ns))])])
                (Kn [(5, (.ptr 0 0)), (7, (.int .i64 (n))), (8, (.vec (.int .i64) (ls))), (12, (.int .i64 (lf))), (20, (.int .i64 (c))), (21, (.int .i64 (IntKind.wrap IntKind.i64 (i + 1))))] [(.box [(.vec tN (ns))])])
              | none => False))
            (False))
          (Kn [(5, (.ptr 0 0)), (7, (.int .i64 (n))), (8, (.vec (.int .i64) (ls))), (12, (.int .i64 (lf))), (20, (.int .i64 (c))), (21, (.int .i64 (IntKind.wrap IntKind.i64 (i + 1))))] [(.box [(.vec tN (ns))])])
        | none => False))
      (False))
    (LoopE c_laws_FnLeaves ⟨[5, 8, 12, 20, 22, 23], 0, true⟩ (lb c_laws_FnLeaves 22 Try.f4) [(5, (.ptr 0 0)), (8, (.vec (.int .i64) (ls))), (12, (.int .i64 (lf))), (20, (.int .i64 (c))), (22, (.bool false)), (23, (.int .i64 0))] [(.box [(.vec tN (ns))])] (lk c_laws_FnLeaves 22 Try.f4 [] K)) := by kernel_rfl
noncomputable def fr_laws_FnLeaves_22 (ns : ShapeD) (ls : List Int) (lf c : Int) (b : Bool) (i : Int) : Fr := [(5, .ptr 0 0), (8, .vec tI ls), (12, .int .i64 lf), (20, .int .i64 c), (22, .bool b), (23, .int .i64 i)]
noncomputable def hp_laws_FnLeaves_22 (ns : ShapeD) (ls : List Int) (lf c : Int) (b : Bool) (i : Int) : Heap := [.box [.vec tN ns]]
theorem r_laws_FnLeaves_22 (ns : ShapeD) (ls : List Int) (lf c : Int) (b : Bool) (i : Int) (Kn : Fr → Heap → Prop) (K : V → Heap → Prop) : round c_laws_FnLeaves ⟨[5,8,12,20,22,23],0,true⟩ (lb c_laws_FnLeaves 22 Try.f4) (fr_laws_FnLeaves_22 ns ls lf c b i) (hp_laws_FnLeaves_22 ns ls lf c b i) Kn (lk c_laws_FnLeaves 22 Try.f4 [] K) =
  cond (decide (i < (↑(List.length ls) : Int)))
    (cond (b)
      (cond (decide (0 ≤ i))
        ((match ls[Int.toNat i]? with
          | some y0 => cond (decide (0 ≤ y0))
            ((match ns[Int.toNat y0]? with
              | some y1 => cond (decide (Prod.fst y1 > 4))
                (K (.bool false) [])
                (Kn [(5, (.ptr 0 0)), (8, (.vec (.int .i64) (ls))), (12, (.int .i64 (lf))), (20, (.int .i64 (c))), (22, (.bool true)), (23, (.int .i64 (IntKind.wrap IntKind.i64 (i + 1))))] [(.box [(.vec tN (ns))])])
              | none => False))
            (False)
          | none => False))
        (False))
      (cond (decide (0 ≤ i))
        ((match ls[Int.toNat i]? with
          | some y2 => cond (decide (0 ≤ i))
            ((match ls[Int.toNat i]? with
              | some y3 => cond (decide (0 ≤ y3))
                ((match ns[Int.toNat y3]? with
                  | some y4 => cond (decide (Prod.fst y4 > 4))
                    (K (.bool false) [])
                    (Kn [(5, (.ptr 0 0)), (8, (.vec (.int .i64) (ls))), (12, (.int .i64 (lf))), (20, (.int .i64 (c))), (22, (.bool (y2 == lf))), (23, (.int .i64 (IntKind.wrap IntKind.i64 (i + 1))))] [(.box [(.vec tN (ns))])])
                  | none => False))
                (False)
              | none => False))
            (False)
          | none => False))
        (False)))
    (cond (b)
      (K (.bool ((↑(List.length ls) : Int) == IntKind.wrap IntKind.i64 (c + 1))) [])
      (K (.bool false) [])) := by kernel_rfl
theorem w_laws_FnLeaves (xs ys : List Int) (K : V → Heap → Prop) : wpFn c_laws_FnLeaves Try.f4 (encAs [.cell tB, .cell tB] (xs, ys, ())) [] K =
  cond (decide (48 < List.length xs) || decide (48 < List.length ys))
    (K (.bool true) [])
    (cond (validS (shapeV (xs, 0, 0)))
      (cond (validS (shapeV (xs, 0, 0)))
        (cond (okS (shapeV (xs, 0, 0)))
          (cond (validS (shapeV (xs, 0, 0)) && inR (IntKind.wrap IntKind.i64 ((↑(List.length (shapeV (xs, 0, 0))) : Int) - 1)) 0 ((↑(List.length (shapeV (xs, 0, 0))) : Int) - 1))
            (cond (validS (shapeV (xs, 0, 0)) && inR (atV ys 40 (↑(List.length (shapeV (xs, 0, 0))) : Int)) 0 ((↑(List.length (shapeV (xs, 0, 0))) : Int) - 1))
              (cond (validS (partV (shapeV (xs, 0, 0)) (atV ys 40 (↑(List.length (shapeV (xs, 0, 0))) : Int))))
                (cond (!partV (shapeV (xs, 0, 0)) (IntKind.wrap IntKind.i64 ((↑(List.length (shapeV (xs, 0, 0))) : Int) - 1)) == shapeV (xs, 0, 0))
                  (K (.bool false) [])
                  (cond (decide (depV (shapeV (xs, 0, 0)) < 1))
                    (K (.bool false) [])
                    (cond (decide (depV (shapeV (xs, 0, 0)) > (↑(List.length (shapeV (xs, 0, 0))) : Int)))
                      (K (.bool false) [])
                      (cond (decide (depV (partV (shapeV (xs, 0, 0)) (atV ys 40 (↑(List.length (shapeV (xs, 0, 0))) : Int))) < 1))
                        (K (.bool false) [])
                        (cond (decide (depV (partV (shapeV (xs, 0, 0)) (atV ys 40 (↑(List.length (shapeV (xs, 0, 0))) : Int))) > depV (shapeV (xs, 0, 0))))
                          (K (.bool false) [])
                          (cond (!validS (partV (shapeV (xs, 0, 0)) (atV ys 40 (↑(List.length (shapeV (xs, 0, 0))) : Int))))
                            (K (.bool false) [])
                            (LoopE c_laws_FnLeaves ⟨[5, 7, 8, 12, 20, 21], 0, true⟩ (lb c_laws_FnLeaves 16 Try.f4) [(5, (.ptr 0 0)), (7, (.int .i64 ((↑(List.length (shapeV (xs, 0, 0))) : Int)))), (8, (.vec (.int .i64) (leafL (shapeV (xs, 0, 0)) (List.length (shapeV (xs, 0, 0)))))), (12, (.int .i64 (leaV (shapeV (xs, 0, 0)) (pointV ys)))), (20, (.int .i64 0)), (21, (.int .i64 0))] [(.box [(.vec tN (shapeV (xs, 0, 0)))])] (lk c_laws_FnLeaves 16 Try.f4 [] K))))))))
                (False))
              (False))
            (False))
          (False))
        (False))
      (False)) := by kernel_rfl
noncomputable def s_laws_FnLeaves : Sm := semT [.cell tB, .cell tB] fun x => match x with | (xs, ys, _) => .bool true
theorem ok_laws_FnLeaves : FnOk Try.prog 4 s_laws_FnLeaves := fnOk_typed (fnOk_runC (C := c_laws_FnLeaves) rfl mixed (.cons ok_laws_r8Long (.cons ok_spec_R8Shape (.cons ok_spec_R8Point (.cons ok_impl_LeavesOf (.cons ok_impl_DepthOf (.cons ok_impl_LeafAt (.cons ok_impl_PartOf_vg_vv (.cons ok_laws_r8At (.cons ok_impl_SameShape (.cons ok_impl_ValidShape .nil)))))))))) .nil .nil Try.func4 (by kernel_rfl)) fun (x : ((List Int) × (List Int) × Unit)) wf K h => by
  obtain ⟨xs, ys, ⟨⟩⟩ := x
  replace h : K (.bool true) [] := h
  rw [w_laws_FnLeaves xs ys K]
  have bx : bytes xs := bytes_of wf.1
  have bY : bytes ys := bytes_of wf.2.1
  have T := shape_tree (s := (xs, 0, 0)) bx
  have hS := shape_okS (s := (xs, 0, 0)) bx
  obtain ⟨g1, g2, g3, g4⟩ := okS_good hS
  cases (decide (48 < xs.length) || decide (48 < ys.length)) with
  | true => exact h
  | false =>
  have hat := atV_range bY (k := 40) (n := ((shapeV (xs, 0, 0)).length : Int)) (by omega)
  generalize shapeV (xs, 0, 0) = ns at *
  generalize pointV ys = p at *
  obtain ⟨node, hnode⟩ : ∃ n : Nat, atV ys 40 (ns.length : Int) = (n : Int) := ⟨(atV ys 40 (ns.length : Int)).toNat, by omega⟩
  rw [hnode] at hat ⊢
  have hw : IntKind.i64.wrap ((ns.length : Int) - 1) = (ns.length : Int) - 1 := i64_of (by omega) (by omega)
  have hl : inR ((ns.length : Int) - 1) 0 ((ns.length : Int) - 1) = true := inR_iff.2 (by omega)
  have hl2 : inR (node : Int) 0 ((ns.length : Int) - 1) = true := inR_iff.2 (by omega)
  obtain ⟨T2, p1, p2⟩ := part_tree T (node := node) (by omega)
  have v2 : validS (partV ns (node : Int)) = true := T2.st.valid T2.lo (by
    have := ms_le (bs := belV ns (node : Int)) (Nat.le_refl ns.length)
    have h3 : (ms (belV ns (node : Int)) ns.length).length ≤ ns.length := by
      unfold ms
      have := List.length_filter_le (mkB (belV ns (node : Int))) (List.range ns.length)
      rwa [List.length_range] at this
    omega)
  obtain ⟨d1, d2, d3, d4⟩ := part_depth T (node := node) (by omega)
  have hroot := part_root T
  have hmem := leaV_mem T g4 p
  have hcount := leaf_count T
  have hll := leafL_len ns ns.length
  rw [hw, g2, hS, hl, hl2, v2, hroot, beq_self_eq_true, d_f (show ¬ depV ns < 1 by omega), d_f (show ¬ depV ns > (ns.length : Int) by omega), d_f (show ¬ depV (partV ns (node : Int)) < 1 by omega), d_f (show ¬ depV (partV ns (node : Int)) > depV ns by omega)]
  simp only [Bool.and_self, Bool.not_true, cond_true, cond_false]
  have elem : ∀ c ∈ leafL ns ns.length, 0 ≤ c ∧ c < ns.length ∧ inR (nodeAt ns c).1 0 4 = true := fun c hc => (leafL_mem ns ns.length c).1 hc
  generalize leafL ns ns.length = ls at *
  generalize leaV ns p = lf at *
  clear p1 p2 T2 v2 d1 d2 d3 d4 hroot hl hl2
  have hp : ∀ i, (pairsL ns i : Int) ≤ i := by
    intro i
    induction i with
    | zero => simp [pairsL]
    | succ i ih =>
      unfold pairsL
      cases inR (nodeAt ns (i : Int)).1 5 8 <;> simp only [cond_true, cond_false] <;> omega
  refine loop_run (σ := Nat) (fun i => fr_laws_FnLeaves_16 ns ls ns.length lf (pairsL ns i) i) (fun _ => hp_laws_FnLeaves_16 ns ls ns.length lf 0 0) (fun i => i ≤ ns.length) (fun i => ns.length - i) ?_ 0 (Nat.zero_le _)
  intro i hi Kn hk
  rw [show hp_laws_FnLeaves_16 ns ls ns.length lf 0 0 = hp_laws_FnLeaves_16 ns ls ns.length lf (pairsL ns i) i from rfl, r_laws_FnLeaves_16 ns ls ns.length lf (pairsL ns i) i Kn K]
  have hpi := hp i
  by_cases hlt : i < ns.length
  · have next := hk (i + 1) hlt (by omega)
    have hs : pairsL ns (i + 1) = bif inR (nodeAt ns (i : Int)).1 5 8 then pairsL ns i + 1 else pairsL ns i := rfl
    rw [hs] at next
    have e := (T.at hlt).1
    simp only [d_lt hlt, d_0, Int.toNat_natCast, cond_true, e]
    rw [i64_of (n := (i : Int) + 1) (by omega) (by omega), i64_of (n := (pairsL ns i : Int) + 1) (by omega) (by omega)]
    unfold inR at next
    cases c1 : decide ((nodeAt ns (i : Int)).1 ≥ 5) with
    | false =>
      rw [c1] at next
      exact next
    | true =>
      cases c2 : decide ((nodeAt ns (i : Int)).1 ≤ 8) with
      | false => rw [c1, c2] at next; exact next
      | true => rw [c1, c2] at next; exact next
  · have ei : i = ns.length := by omega
    subst ei
    rw [d_nlt hlt]
    simp only [cond_false]
    refine loop_run (σ := Nat) (fun j => fr_laws_FnLeaves_22 ns ls lf (pairsL ns ns.length) ((ls.take j).any (fun c => c == lf)) j) (fun _ => hp_laws_FnLeaves_22 ns ls lf 0 false 0) (fun j => j ≤ ls.length) (fun j => ls.length - j) ?_ 0 (Nat.zero_le _)
    intro j hj Kn2 hk2
    rw [show hp_laws_FnLeaves_22 ns ls lf 0 false 0 = hp_laws_FnLeaves_22 ns ls lf (pairsL ns ns.length) ((ls.take j).any (fun c => c == lf)) j from rfl, r_laws_FnLeaves_22 ns ls lf (pairsL ns ns.length) ((ls.take j).any (fun c => c == lf)) j Kn2 K]
    by_cases hjl : j < ls.length
    · have next := hk2 (j + 1) hjl (by omega)
      rw [take_one hjl, List.any_append] at next
      simp only [List.any_cons, List.any_nil, Bool.or_false] at next
      obtain ⟨r1, r2, r3⟩ := elem _ (List.getElem_mem hjl)
      have e := (T.at (i := (ls[j]'hjl).toNat) (by omega)).1
      rw [Int.toNat_of_nonneg r1] at e
      have r4 := inR_iff.1 r3
      simp only [d_lt hjl, d_0, Int.toNat_natCast, cond_true, get_lt hjl, d_t r1, e, d_f (show ¬ (nodeAt ns (ls[j]'hjl)).1 > 4 by omega), cond_false]
      rw [i64_of (n := (j : Int) + 1) (by omega) (by omega)]
      cases c1 : ((ls.take j).any fun c => c == lf) with
      | true => rw [c1, Bool.true_or] at next; exact next
      | false => rw [c1, Bool.false_or] at next; exact next
    · have ej : j = ls.length := by omega
      subst ej
      have hany : (ls.any fun c => c == lf) = true := List.any_eq_true.2 ⟨lf, hmem, beq_self_eq_true _⟩
      rw [d_nlt hjl, List.take_length, hany, i64_of (n := (pairsL ns ns.length : Int) + 1) (by omega) (by omega), show ((ls.length : Int) == (pairsL ns ns.length : Int) + 1) = true from beq_iff_eq.2 (by omega)]
      exact h

end Go.Proofs.Ytfhpmcdbfebflaa

