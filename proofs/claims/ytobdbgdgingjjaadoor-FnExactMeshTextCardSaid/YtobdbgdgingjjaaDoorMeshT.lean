/- Texts of meshes. -/
import Derived.Test.YtobdbgdgingjjaaDoorSaid
set_option linter.unusedVariables false
set_option linter.unusedSimpArgs false
set_option maxRecDepth 100000
namespace Go.Proofs.YtobdbgdgingjjaaDoor
open Go.Ev
abbrev tM : Ty := .pair (.slice tV) (.slice (.slice tI))

/-! plain -/
--B triB Int → List Int → Bool
def triB (n : Int) (t : List Int) : Bool := match t with
  | [a, b, c] => (inR a 0 (n - 1) && (inR b 0 (n - 1) && inR c 0 (n - 1))) && (!(a == b) && (!(b == c) && !(c == a)))
  | _ => false
--B validM List (Nat × Nat × Nat) → List (List Int) → Bool
def validM (vs : List V3) (ts : List (List Int)) : Bool := !ts.any (fun t => !triB vs.length t) && (decide (vs.length ≤ 8192) && decide (ts.length ≤ 9000))

/-! impl.isTriangle$1 -/
noncomputable def c_impl_isTriangle_1 : Ctx := mkC Tryd.prog tyT [(72, s_impl_in)] [] [] 9 (fun _ => none) 0
theorem w_impl_isTriangle_1 (i pl : Int) (K : V → Heap → Prop) : wpFn c_impl_isTriangle_1 Tryd.f116 (encAs [.cell tI, .ref tI] (i, pl, ())) [] K =
  K (.bool (!inR i 0 (IntKind.wrap IntKind.i64 (pl - 1)))) [] := by kernel_rfl
noncomputable def s_impl_isTriangle_1 : Sm := semG [.cell tI, .ref tI] (fun x => match x with | (i, pl, _) => decide (0 ≤ pl)) fun x => match x with | (i, pl, _) => .bool (!inR i 0 (pl - 1))
theorem ok_impl_isTriangle_1 : FnOk Tryd.prog 116 s_impl_isTriangle_1 := fnOk_typedG (fnOk_runC (C := c_impl_isTriangle_1) rfl mixed (.cons ok_impl_in .nil) .nil .nil Tryd.func116 (by kernel_rfl)) fun (x : ((Int) × (Int) × Unit)) wf hg K h => by
  obtain ⟨i, pl, ⟨⟩⟩ := x
  replace hg : (decide (0 ≤ pl)) = true := hg
  replace h : K (.bool (!inR i 0 (pl - 1))) [] := h
  rw [w_impl_isTriangle_1 i pl K]
  have hg := of_decide_eq_true hg
  have w2 := wf.2.1.2
  have w2 : pl ≤ 9223372036854775807 := w2
  rw [i64_of (n := pl - 1) (by omega) (by omega)]
  exact h

/-! slices.IndexFunc[[]int64,int64] -/
noncomputable def a_slices_IndexFunc__int64_ : Nat → Option Ann := fun n => bif Nat.beq n 2 then some ⟨[0,1,7,8],0,false⟩ else none
noncomputable def c_slices_IndexFunc__int64_ : Ctx := mkC Tryd.prog tyT [(116, s_impl_isTriangle_1)] [] [] 19 a_slices_IndexFunc__int64_ 0
noncomputable def fr_slices_IndexFunc__int64__2 (xs : List Int) (pl n i : Int) : Fr := [(0, .vec tI xs), (1, .fn 116 [.ref [.int .i64 pl] 0]), (7, .int .i64 n), (8, .int .i64 i)]
theorem r_slices_IndexFunc__int64__2 (xs : List Int) (pl n i : Int) (Kn : Fr → Heap → Prop) (K : V → Heap → Prop) : round c_slices_IndexFunc__int64_ ⟨[0,1,7,8],0,false⟩ (lb c_slices_IndexFunc__int64_ 2 Tryd.f145) (fr_slices_IndexFunc__int64__2 xs pl n i) [] Kn (lk c_slices_IndexFunc__int64_ 2 Tryd.f145 [] K) =
  cond (decide (i < n))
    (cond (decide (0 ≤ i))
      ((match xs[Int.toNat i]? with
        | some y0 => cond (decide (0 ≤ pl))
          (cond (!inR y0 0 (pl - 1))
            (K (.int .i64 (i)) [])
            (Kn [(0, (.vec (.int .i64) (xs))), (1, (.fn 116 [(.ref [(.int .i64 (pl))] 0)])), (7, (.int .i64 (n))), (8, (.int .i64 (IntKind.wrap IntKind.i64 (i + 1))))] []))
          (False)
        | none => False))
      (False))
    (K (.int .i64 (-1)) []) := by kernel_rfl
theorem w_slices_IndexFunc__int64_ (xs : List Int) (pl : Int) (K : V → Heap → Prop) : wpFn c_slices_IndexFunc__int64_ Tryd.f145 (encAs [.cell (.slice tI), .clo 116 tI] (xs, pl, ())) [] K =
  LoopE c_slices_IndexFunc__int64_ ⟨[0, 1, 7, 8], 0, false⟩ (lb c_slices_IndexFunc__int64_ 2 Tryd.f145) [(0, (.vec (.int .i64) (xs))), (1, (.fn 116 [(.ref [(.int .i64 (pl))] 0)])), (7, (.int .i64 ((↑(List.length xs) : Int)))), (8, (.int .i64 0))] [] (lk c_slices_IndexFunc__int64_ 2 Tryd.f145 [] K) := by kernel_rfl
noncomputable def s_slices_IndexFunc__int64_ : Sm := semG [.cell (.slice tI), .clo 116 tI] (fun x => match x with | (xs, pl, _) => decide (0 ≤ pl)) fun x => match x with | (xs, pl, _) => .int .i64 (idxF (fun x => !inR x 0 (pl - 1)) xs)
theorem ok_slices_IndexFunc__int64_ : FnOk Tryd.prog 145 s_slices_IndexFunc__int64_ := fnOk_typedG (fnOk_runC (C := c_slices_IndexFunc__int64_) rfl mixed (.cons ok_impl_isTriangle_1 .nil) .nil .nil Tryd.func145 (by kernel_rfl)) fun (x : ((List Int) × (Int) × Unit)) wf hg K h => by
  obtain ⟨xs, pl, ⟨⟩⟩ := x
  replace hg : (decide (0 ≤ pl)) = true := hg
  replace h : K (.int .i64 (idxF (fun x => !inR x 0 (pl - 1)) xs)) [] := h
  rw [w_slices_IndexFunc__int64_ xs pl K]
  obtain ⟨⟨wl, _⟩, _⟩ := wf
  have wl : xs.length ≤ 9223372036854775807 := wl
  refine loop_run (σ := Nat) (fun i => fr_slices_IndexFunc__int64__2 xs pl xs.length i) (fun _ => []) (fun i => i ≤ xs.length ∧ (xs.take i).any (fun x => !inR x 0 (pl - 1)) = false) (fun i => xs.length - i) ?_ 0 ⟨Nat.zero_le _, rfl⟩
  intro i hi Kn hk
  rw [r_slices_IndexFunc__int64__2 xs pl xs.length i Kn K]
  by_cases hlt : i < xs.length
  · simp only [d_lt hlt, d_0, cond_true, Int.toNat_natCast, get_lt hlt, hg]
    cases hp : (fun x => !inR x 0 (pl - 1)) (xs[i]'hlt) with
    | true =>
      rw [idxF_hit hlt hi.2 hp] at h
      simp only at hp
      simp only [hp, cond_true]
      exact h
    | false =>
      have hn := any_snoc (f := fun x => !inR x 0 (pl - 1)) hlt hi.2 hp
      simp only at hp
      simp only [hp, cond_false]
      rw [i64_of (by omega) (by omega)]
      exact hk (i + 1) ⟨hlt, hn⟩ (by omega)
  · simp only [d_nlt hlt, cond_false]
    have : i = xs.length := by omega
    subst this
    have ha := hi.2
    rw [List.take_length] at ha
    rw [idxF_none ha] at h
    exact h

/-! slices.ContainsFunc[[]int64,int64] -/
noncomputable def c_slices_ContainsFunc__int64_ : Ctx := mkC Tryd.prog tyT [(145, s_slices_IndexFunc__int64_)] [] [] 9 (fun _ => none) 0
theorem w_slices_ContainsFunc__int64_ (xs : List Int) (pl : Int) (K : V → Heap → Prop) : wpFn c_slices_ContainsFunc__int64_ Tryd.f115 (encAs [.cell (.slice tI), .clo 116 tI] (xs, pl, ())) [] K =
  cond (decide (0 ≤ pl))
    (K (.bool (decide (idxF (fun x => !inR x 0 (pl - 1)) xs ≥ 0))) [])
    (False) := by kernel_rfl
noncomputable def s_slices_ContainsFunc__int64_ : Sm := semG [.cell (.slice tI), .clo 116 tI] (fun x => match x with | (xs, pl, _) => decide (0 ≤ pl)) fun x => match x with | (xs, pl, _) => .bool (xs.any (fun x => !inR x 0 (pl - 1)))
theorem ok_slices_ContainsFunc__int64_ : FnOk Tryd.prog 115 s_slices_ContainsFunc__int64_ := fnOk_typedG (fnOk_runC (C := c_slices_ContainsFunc__int64_) rfl mixed (.cons ok_slices_IndexFunc__int64_ .nil) .nil .nil Tryd.func115 (by kernel_rfl)) fun (x : ((List Int) × (Int) × Unit)) wf hg K h => by
  obtain ⟨xs, pl, ⟨⟩⟩ := x
  replace hg : (decide (0 ≤ pl)) = true := hg
  replace h : K (.bool (xs.any (fun x => !inR x 0 (pl - 1)))) [] := h
  rw [w_slices_ContainsFunc__int64_ xs pl K]
  rw [hg, idxF_ge]
  exact h

/-! impl.isTriangle -/
noncomputable def c_impl_isTriangle : Ctx := mkC Tryd.prog tyT [(115, s_slices_ContainsFunc__int64_)] [] [] 39 (fun _ => none) 0
theorem w_impl_isTriangle (t : List Int) (pl : Int) (K : V → Heap → Prop) : wpFn c_impl_isTriangle Tryd.f85 (encAs [.cell (.slice tI), .cell tI] (t, pl, ())) [] K =
  cond ((↑(List.length t) : Int) != 3)
    (K (.bool false) [])
    ((match t[0]? with
      | some y0 => (match t[1]? with
        | some y1 => cond (y0 == y1)
          (K (.bool false) [])
          ((match t[1]? with
            | some y2 => (match t[2]? with
              | some y3 => cond (y2 == y3)
                (K (.bool false) [])
                ((match t[2]? with
                  | some y4 => (match t[0]? with
                    | some y5 => cond (y4 == y5)
                      (K (.bool false) [])
                      (cond (decide (0 ≤ pl))
                        (K (.bool (!List.any t fun x => !inR x 0 (pl - 1))) [])
                        (False))
                    | none => False)
                  | none => False))
              | none => False)
            | none => False))
        | none => False)
      | none => False)) := by kernel_rfl
noncomputable def s_impl_isTriangle : Sm := semG [.cell (.slice tI), .cell tI] (fun x => match x with | (t, pl, _) => decide (0 ≤ pl)) fun x => match x with | (t, pl, _) => .bool (triB pl t)
theorem ok_impl_isTriangle : FnOk Tryd.prog 85 s_impl_isTriangle := fnOk_typedG (fnOk_runC (C := c_impl_isTriangle) rfl mixed (.cons ok_slices_ContainsFunc__int64_ .nil) .nil .nil Tryd.func85 (by kernel_rfl)) fun (x : ((List Int) × (Int) × Unit)) wf hg K h => by
  obtain ⟨t, pl, ⟨⟩⟩ := x
  replace hg : (decide (0 ≤ pl)) = true := hg
  replace h : K (.bool (triB pl t)) [] := h
  rw [w_impl_isTriangle t pl K]
  rcases t with _ | ⟨a, _ | ⟨b, _ | ⟨c, _ | ⟨d, r⟩⟩⟩⟩
  · exact h
  · exact h
  · exact h
  · rw [show ((([a, b, c].length : Nat) : Int) != 3) = false from rfl]
    simp only [cond_false, hg, cond_true, List.getElem?_cons_zero, List.getElem?_cons_succ]
    simp only [triB] at h
    simp only [List.any_cons, List.any_nil, Bool.or_false]
    revert h
    cases a == b <;> cases b == c <;> cases c == a <;> cases inR a 0 (pl - 1) <;> cases inR b 0 (pl - 1) <;> cases inR c 0 (pl - 1) <;> exact id
  · rw [show ((((a :: b :: c :: d :: r).length : Nat) : Int) != 3) = true from bne_iff_ne.2 (by simp only [List.length_cons]; omega)]
    exact h

/-! impl.ValidMesh$1 -/
noncomputable def c_impl_ValidMesh_1 : Ctx := mkC Tryd.prog tyT [(85, s_impl_isTriangle)] [] [] 10 (fun _ => none) 0
theorem w_impl_ValidMesh_1 (t : List Int) (vs : List V3) (ts : List (List Int)) (K : V → Heap → Prop) : wpFn c_impl_ValidMesh_1 Tryd.f84 (encAs [.cell (.slice tI), .ref tM] (t, (vs, ts), ())) [] K =
  K (.bool (!triB (↑(List.length vs) : Int) t)) [] := by kernel_rfl
noncomputable def s_impl_ValidMesh_1 : Sm := semT [.cell (.slice tI), .ref tM] fun x => match x with | (t, (vs, ts), _) => .bool (!triB vs.length t)
theorem ok_impl_ValidMesh_1 : FnOk Tryd.prog 84 s_impl_ValidMesh_1 := fnOk_typed (fnOk_runC (C := c_impl_ValidMesh_1) rfl mixed (.cons ok_impl_isTriangle .nil) .nil .nil Tryd.func84 (by kernel_rfl)) fun (x : ((List Int) × ((List V3) × (List (List Int))) × Unit)) wf K h => by
  obtain ⟨t, ⟨vs, ts⟩, ⟨⟩⟩ := x
  replace h : K (.bool (!triB vs.length t)) [] := h
  rw [w_impl_ValidMesh_1 t vs ts K]
  exact h

/-! slices.IndexFunc[[][]int64,[]int64] -/
noncomputable def a_slices_IndexFunc__int64_vtri : Nat → Option Ann := fun n => bif Nat.beq n 2 then some ⟨[0,1,7,8],0,false⟩ else none
noncomputable def c_slices_IndexFunc__int64_vtri : Ctx := mkC Tryd.prog tyT [(84, s_impl_ValidMesh_1)] [] [] 19 a_slices_IndexFunc__int64_vtri 0
noncomputable def fr_slices_IndexFunc__int64_vtri_2 (xs : List (List Int)) (vs : List V3) (ts : List (List Int)) (n i : Int) : Fr := [(0, .vec (.slice tI) xs), (1, .fn 84 [.ref [.vec tV vs, .vec (.slice tI) ts] 0]), (7, .int .i64 n), (8, .int .i64 i)]
theorem r_slices_IndexFunc__int64_vtri_2 (xs : List (List Int)) (vs : List V3) (ts : List (List Int)) (n i : Int) (Kn : Fr → Heap → Prop) (K : V → Heap → Prop) : round c_slices_IndexFunc__int64_vtri ⟨[0,1,7,8],0,false⟩ (lb c_slices_IndexFunc__int64_vtri 2 Tryd.f114) (fr_slices_IndexFunc__int64_vtri_2 xs vs ts n i) [] Kn (lk c_slices_IndexFunc__int64_vtri 2 Tryd.f114 [] K) =
  cond (decide (i < n))
    (cond (decide (0 ≤ i))
      ((match xs[Int.toNat i]? with
        | some y0 => cond (!triB (↑(List.length vs) : Int) y0)
          (K (.int .i64 (i)) [])
          (Kn [(0, (.vec (.slice (.int .i64)) (xs))), (1, (.fn 84 [(.ref [(.vec (.pair (.float .f32) (.pair (.float .f32) (.float .f32))) (vs)), (.vec (.slice (.int .i64)) (ts))] 0)])), (7, (.int .i64 (n))), (8, (.int .i64 (IntKind.wrap IntKind.i64 (i + 1))))] [])
        | none => False))
      (False))
    (K (.int .i64 (-1)) []) := by kernel_rfl
theorem w_slices_IndexFunc__int64_vtri (xs : List (List Int)) (vs : List V3) (ts : List (List Int)) (K : V → Heap → Prop) : wpFn c_slices_IndexFunc__int64_vtri Tryd.f114 (encAs [.cell (.slice (.slice tI)), .clo 84 tM] (xs, (vs, ts), ())) [] K =
  LoopE c_slices_IndexFunc__int64_vtri ⟨[0, 1, 7, 8], 0, false⟩ (lb c_slices_IndexFunc__int64_vtri 2 Tryd.f114) [(0, (.vec (.slice (.int .i64)) (xs))), (1, (.fn 84 [(.ref [(.vec (.pair (.float .f32) (.pair (.float .f32) (.float .f32))) (vs)), (.vec (.slice (.int .i64)) (ts))] 0)])), (7, (.int .i64 ((↑(List.length xs) : Int)))), (8, (.int .i64 0))] [] (lk c_slices_IndexFunc__int64_vtri 2 Tryd.f114 [] K) := by kernel_rfl
noncomputable def s_slices_IndexFunc__int64_vtri : Sm := semT [.cell (.slice (.slice tI)), .clo 84 tM] fun x => match x with | (xs, (vs, ts), _) => .int .i64 (idxF (fun x => !triB vs.length x) xs)
theorem ok_slices_IndexFunc__int64_vtri : FnOk Tryd.prog 114 s_slices_IndexFunc__int64_vtri := fnOk_typed (fnOk_runC (C := c_slices_IndexFunc__int64_vtri) rfl mixed (.cons ok_impl_ValidMesh_1 .nil) .nil .nil Tryd.func114 (by kernel_rfl)) fun (x : ((List (List Int)) × ((List V3) × (List (List Int))) × Unit)) wf K h => by
  obtain ⟨xs, ⟨vs, ts⟩, ⟨⟩⟩ := x
  replace h : K (.int .i64 (idxF (fun x => !triB vs.length x) xs)) [] := h
  rw [w_slices_IndexFunc__int64_vtri xs vs ts K]
  obtain ⟨⟨wl, _⟩, _⟩ := wf
  have wl : xs.length ≤ 9223372036854775807 := wl
  refine loop_run (σ := Nat) (fun i => fr_slices_IndexFunc__int64_vtri_2 xs vs ts xs.length i) (fun _ => []) (fun i => i ≤ xs.length ∧ (xs.take i).any (fun x => !triB vs.length x) = false) (fun i => xs.length - i) ?_ 0 ⟨Nat.zero_le _, rfl⟩
  intro i hi Kn hk
  rw [r_slices_IndexFunc__int64_vtri_2 xs vs ts xs.length i Kn K]
  by_cases hlt : i < xs.length
  · simp only [d_lt hlt, d_0, cond_true, Int.toNat_natCast, get_lt hlt]
    cases hp : (fun x => !triB vs.length x) (xs[i]'hlt) with
    | true =>
      rw [idxF_hit hlt hi.2 hp] at h
      simp only at hp
      simp only [hp, cond_true]
      exact h
    | false =>
      have hn := any_snoc (f := (fun x => !triB vs.length x)) hlt hi.2 hp
      simp only at hp
      simp only [hp, cond_false]
      rw [i64_of (by omega) (by omega)]
      exact hk (i + 1) ⟨hlt, hn⟩ (by omega)
  · simp only [d_nlt hlt, cond_false]
    have : i = xs.length := by omega
    subst this
    have ha := hi.2
    rw [List.take_length] at ha
    rw [idxF_none ha] at h
    exact h

/-! slices.ContainsFunc[[][]int64,[]int64] -/
noncomputable def c_slices_ContainsFunc__int64_vtri : Ctx := mkC Tryd.prog tyT [(114, s_slices_IndexFunc__int64_vtri)] [] [] 9 (fun _ => none) 0
theorem w_slices_ContainsFunc__int64_vtri (xs : List (List Int)) (vs : List V3) (ts : List (List Int)) (K : V → Heap → Prop) : wpFn c_slices_ContainsFunc__int64_vtri Tryd.f83 (encAs [.cell (.slice (.slice tI)), .clo 84 tM] (xs, (vs, ts), ())) [] K =
  K (.bool (decide (idxF (fun x => !triB (↑(List.length vs) : Int) x) xs ≥ 0))) [] := by kernel_rfl
noncomputable def s_slices_ContainsFunc__int64_vtri : Sm := semT [.cell (.slice (.slice tI)), .clo 84 tM] fun x => match x with | (xs, (vs, ts), _) => .bool (xs.any (fun x => !triB vs.length x))
theorem ok_slices_ContainsFunc__int64_vtri : FnOk Tryd.prog 83 s_slices_ContainsFunc__int64_vtri := fnOk_typed (fnOk_runC (C := c_slices_ContainsFunc__int64_vtri) rfl mixed (.cons ok_slices_IndexFunc__int64_vtri .nil) .nil .nil Tryd.func83 (by kernel_rfl)) fun (x : ((List (List Int)) × ((List V3) × (List (List Int))) × Unit)) wf K h => by
  obtain ⟨xs, ⟨vs, ts⟩, ⟨⟩⟩ := x
  replace h : K (.bool (xs.any (fun x => !triB vs.length x))) [] := h
  rw [w_slices_ContainsFunc__int64_vtri xs vs ts K]
  rw [idxF_ge]
  exact h


/-! impl.ValidMesh -/
noncomputable def c_impl_ValidMesh : Ctx := mkC Tryd.prog tyT [(83, s_slices_ContainsFunc__int64_vtri)] [] [] 22 (fun _ => none) 0
theorem w_impl_ValidMesh (vs : List V3) (ts : List (List Int)) (K : V → Heap → Prop) : wpFn c_impl_ValidMesh Tryd.f52 (encAs [.agg tM] ((vs, ts), ())) [] K =
  cond (!List.any ts fun x => !triB (↑(List.length vs) : Int) x)
    (cond (decide ((↑(List.length vs) : Int) ≤ 8192))
      (K (.bool (decide ((↑(List.length ts) : Int) ≤ 9000))) [])
      (K (.bool false) []))
    (K (.bool false) []) := by kernel_rfl
noncomputable def s_impl_ValidMesh : Sm := semT [.agg tM] fun x => match x with | ((vs, ts), _) => .bool (validM vs ts)
theorem ok_impl_ValidMesh : FnOk Tryd.prog 52 s_impl_ValidMesh := fnOk_typed (fnOk_runC (C := c_impl_ValidMesh) rfl mixed (.cons ok_slices_ContainsFunc__int64_vtri .nil) .nil .nil Tryd.func52 (by kernel_rfl)) fun (x : (((List V3) × (List (List Int))) × Unit)) wf K h => by
  obtain ⟨⟨vs, ts⟩, ⟨⟩⟩ := x
  replace h : K (.bool (validM vs ts)) [] := h
  rw [w_impl_ValidMesh vs ts K]
  unfold validM at h
  rw [show decide ((vs.length : Int) ≤ 8192) = decide (vs.length ≤ 8192) from decide_eq_decide.2 (by omega), show decide ((ts.length : Int) ≤ 9000) = decide (ts.length ≤ 9000) from decide_eq_decide.2 (by omega)]
  revert h
  cases ts.any (fun t => !triB vs.length t) <;> cases decide (vs.length ≤ 8192) <;> exact id

/-! spec.l07Is -/
noncomputable def a_spec_l07Is : Nat → Option Ann := fun n => bif Nat.beq n 5 then some ⟨[0,3,25,26],0,false⟩ else none
noncomputable def c_spec_l07Is : Ctx := mkC Tryd.prog tyT [(79, s_spec_l00In)] [] [] 94 a_spec_l07Is 0
noncomputable def fr_spec_l07Is_5 (vs : List V3) (ts : List (List Int)) (pl n i : Int) : Fr := [(0, .ref [.vec tV vs, .vec (.slice tI) ts] 0), (3, .int .i64 pl), (25, .int .i64 n), (26, .int .i64 i)]
theorem r_spec_l07Is_5 (vs : List V3) (ts : List (List Int)) (pl n i : Int) (Kn : Fr → Heap → Prop) (K : V → Heap → Prop) : round c_spec_l07Is ⟨[0,3,25,26],0,false⟩ (lb c_spec_l07Is 5 Tryd.f47) (fr_spec_l07Is_5 vs ts pl n i) [] Kn (lk c_spec_l07Is 5 Tryd.f47 [] K) =
  cond (decide (i < n))
    (cond (decide (0 ≤ i))
      ((match ts[Int.toNat i]? with
        | some y0 => cond ((↑(List.length y0) : Int) != 3)
          (K (.bool false) [])
          ((match y0[0]? with
            | some y1 => cond (!inR y1 0 (IntKind.wrap IntKind.i64 (pl - 1)))
              (K (.bool false) [])
              ((match y0[1]? with
                | some y2 => cond (!inR y2 0 (IntKind.wrap IntKind.i64 (pl - 1)))
                  (K (.bool false) [])
                  ((match y0[2]? with
                    | some y3 => cond (!inR y3 0 (IntKind.wrap IntKind.i64 (pl - 1)))
                      (K (.bool false) [])
                      ((match y0[0]? with
                        | some y4 => (match y0[1]? with
                          | some y5 => cond (y4 == y5)
                            (K (.bool false) [])
                            ((match y0[1]? with
                              | some y6 => (match y0[2]? with
                                | some y7 => cond (y6 == y7)
                                  (K (.bool false) [])
                                  ((match y0[2]? with
                                    | some y8 => (match y0[0]? with
                                      | some y9 => cond (y8 == y9)
                                        (K (.bool false) [])
                                        (Kn [(0, (.ref [(.vec (.pair (.float .f32) (.pair (.float .f32) (.float .f32))) (vs)), (.vec (.slice (.int .i64)) (ts))] 0)), (3, (.int .i64 (pl))), (25, (.int .i64 (n))), (26, (.int .i64 (IntKind.wrap IntKind.i64 (i + 1))))] [])
                                      | none => False)
                                    | none => False))
                                | none => False)
                              | none => False))
                          | none => False)
                        | none => False))
                    | none => False))
                | none => False))
            | none => False))
        | none => False))
      (False))
    (K (.bool true) []) := by kernel_rfl
theorem w_spec_l07Is (vs : List V3) (ts : List (List Int)) (K : V → Heap → Prop) : wpFn c_spec_l07Is Tryd.f47 (encAs [.ref tM] ((vs, ts), ())) [] K =
  cond (decide ((↑(List.length vs) : Int) > 8192))
    (K (.bool false) [])
    (cond (decide ((↑(List.length ts) : Int) > 9000))
      (K (.bool false) [])
      (LoopE c_spec_l07Is ⟨[0, 3, 25, 26], 0, false⟩ (lb c_spec_l07Is 5 Tryd.f47) [(0, (.ref [(.vec (.pair (.float .f32) (.pair (.float .f32) (.float .f32))) (vs)), (.vec (.slice (.int .i64)) (ts))] 0)), (3, (.int .i64 ((↑(List.length vs) : Int)))), (25, (.int .i64 ((↑(List.length ts) : Int)))), (26, (.int .i64 0))] [] (lk c_spec_l07Is 5 Tryd.f47 [] K))) := by kernel_rfl
noncomputable def s_spec_l07Is : Sm := semT [.ref tM] fun x => match x with | ((vs, ts), _) => .bool (validM vs ts)
theorem ok_spec_l07Is : FnOk Tryd.prog 47 s_spec_l07Is := fnOk_typed (fnOk_runC (C := c_spec_l07Is) rfl mixed (.cons ok_spec_l00In .nil) .nil .nil Tryd.func47 (by kernel_rfl)) fun (x : (((List V3) × (List (List Int))) × Unit)) wf K h => by
  obtain ⟨⟨vs, ts⟩, ⟨⟩⟩ := x
  replace h : K (.bool (validM vs ts)) [] := h
  rw [w_spec_l07Is vs ts K]
  by_cases hv : vs.length ≤ 8192
  · by_cases ht : ts.length ≤ 9000
    · have hval : validM vs ts = !ts.any (fun t => !triB vs.length t) := by unfold validM; rw [d_t hv, d_t ht]; simp
      rw [hval] at h
      rw [d_f (show ¬ (vs.length : Int) > 8192 by omega), d_f (show ¬ (ts.length : Int) > 9000 by omega)]
      simp only [cond_false]
      refine loop_run (σ := Nat) (fun i => fr_spec_l07Is_5 vs ts vs.length ts.length i) (fun _ => []) (fun i => i ≤ ts.length ∧ (ts.take i).any (fun t => !triB vs.length t) = false) (fun i => ts.length - i) ?_ 0 ⟨Nat.zero_le _, rfl⟩
      intro i hi Kn hk
      rw [r_spec_l07Is_5 vs ts vs.length ts.length i Kn K]
      by_cases hlt : i < ts.length
      · simp only [d_lt hlt, d_0, cond_true, Int.toNat_natCast, get_lt hlt]
        rw [i64_of (n := (i : Int) + 1) (by omega) (by omega), i64_of (n := (vs.length : Int) - 1) (by omega) (by omega)]
        have next : triB vs.length (ts[i]'hlt) = true → Kn (fr_spec_l07Is_5 vs ts vs.length ts.length ((i : Int) + 1)) [] := fun e =>
          hk (i + 1) ⟨hlt, any_snoc (f := fun t => !triB vs.length t) hlt hi.2 (by simp only [e]; rfl)⟩ (by omega)
        have no : triB vs.length (ts[i]'hlt) = false → K (.bool false) [] := fun e => by
          rw [List.any_eq_true.2 ⟨_, List.getElem_mem hlt, by rw [e]; rfl⟩] at h
          exact h
        generalize ts[i]'hlt = t at *
        rcases t with _ | ⟨a, _ | ⟨b, _ | ⟨c, _ | ⟨d, r⟩⟩⟩⟩
        · exact no rfl
        · exact no rfl
        · exact no rfl
        · rw [show ((([a, b, c].length : Nat) : Int) != 3) = false from rfl]
          simp only [cond_false, List.getElem?_cons_zero, List.getElem?_cons_succ]
          simp only [triB] at next no
          revert next no
          cases a == b <;> cases b == c <;> cases c == a <;> cases inR a 0 ((vs.length : Int) - 1) <;> cases inR b 0 ((vs.length : Int) - 1) <;> cases inR c 0 ((vs.length : Int) - 1) <;> first | exact fun f _ => f rfl | exact fun _ f => f rfl
        · rw [show ((((a :: b :: c :: d :: r).length : Nat) : Int) != 3) = true from bne_iff_ne.2 (by simp only [List.length_cons]; omega)]
          exact no rfl
      · have : i = ts.length := by omega
        subst this
        simp only [d_nlt hlt, cond_false]
        have ha := hi.2
        rw [List.take_length] at ha
        rw [ha] at h
        exact h
    · have hval : validM vs ts = false := by unfold validM; rw [d_f ht, Bool.and_false, Bool.and_false]
      rw [hval] at h
      rw [d_f (show ¬ (vs.length : Int) > 8192 by omega), d_t (show (ts.length : Int) > 9000 by omega)]
      exact h
  · have hval : validM vs ts = false := by unfold validM; rw [d_f hv, Bool.false_and, Bool.and_false]
    rw [hval] at h
    rw [d_t (show (vs.length : Int) > 8192 by omega)]
    exact h

/-! plain: the text -/
theorem flat_len {α : Type} {f : α → List UInt8} {B : Nat} {xs : List α} (h : ∀ x ∈ xs, (f x).length ≤ B) : (xs.flatMap f).length ≤ B * xs.length := by
  induction xs with
  | nil => simp
  | cons x xs ih =>
    have := ih fun y hy => h y (by simp [hy])
    have := h x (by simp)
    rw [List.flatMap_cons, List.length_append, List.length_cons, Nat.mul_succ]
    omega
theorem flat_take {α : Type} (f : α → List UInt8) {xs : List α} {i : Nat} (hi : i < xs.length) : (xs.take (i + 1)).flatMap f = (xs.take i).flatMap f ++ f (xs[i]'hi) := by
  rw [take_one hi, List.flatMap_append, List.flatMap_singleton]
--B placeT Nat × Nat × Nat → List UInt8
def placeT (v : V3) : Str := ([118, 32] ++ numT [v.1, v.2.1, v.2.2]) ++ [10]
--B faceT List Int → List UInt8
def faceT (t : List Int) : Str := ([102, 32] ++ decT t) ++ [10]
--B meshX List (Nat × Nat × Nat) → List (List Int) → List UInt8
def meshX (vs : List V3) (ts : List (List Int)) : Str := vs.flatMap placeT ++ ts.flatMap faceT
--B okM List (Nat × Nat × Nat) → List (List Int) → Bool
def okM (vs : List V3) (ts : List (List Int)) : Bool := validM vs ts && (decide (vs.length ≤ 100) && decide (ts.length ≤ 200))
theorem placeT_le (v : V3) : (numT [v.1, v.2.1, v.2.2]).length ≤ 31 ∧ (placeT v).length ≤ 34 := by
  have := numT_le [v.1, v.2.1, v.2.2]
  simp only [placeT, List.length_append, List.length_cons, List.length_nil] at this ⊢
  omega
structure SmallF (t : List Int) : Prop where
  ok : (decide (t.length ≤ 63) && t.all rngB) = true
  dec : (decT t).length ≤ 70
  face : (faceT t).length ≤ 73
theorem face_small {vs : List V3} {t : List Int} (hv : vs.length ≤ 100) (h : triB vs.length t = true) : SmallF t := by
  unfold triB at h
  split at h
  · rename_i a b c
    simp only [Bool.and_eq_true] at h
    have ha := inR_iff.1 h.1.1
    have hb := inR_iff.1 h.1.2.1
    have hc := inR_iff.1 h.1.2.2
    have hall : [a, b, c].all rngB = true := by
      simp only [List.all_cons, List.all_nil, rngB, Bool.and_true, Bool.and_eq_true, decide_eq_true_eq]
      omega
    have hd := decT_le hall
    simp only [List.length_cons, List.length_nil] at hd
    refine ⟨by rw [hall]; rfl, by omega, ?_⟩
    simp only [faceT, List.length_append, List.length_cons, List.length_nil]
    omega
  · cases h
theorem faces_small {vs : List V3} {ts : List (List Int)} (hv : vs.length ≤ 100) (h : validM vs ts = true) : ∀ t ∈ ts, SmallF t := by
  unfold validM at h
  simp only [Bool.and_eq_true, Bool.not_eq_true'] at h
  intro t ht
  have := List.any_eq_false.1 h.1 t ht
  exact face_small hv (by simpa using this)

/-! impl.MeshText -/
noncomputable def a_impl_MeshText : Nat → Option Ann := fun n => bif Nat.beq n 5 then some ⟨[1,4,26,27,28],2,false⟩ else bif Nat.beq n 10 then some ⟨[4,39,40,41],2,false⟩ else none
noncomputable def c_impl_MeshText : Ctx := mkC Tryd.prog tyT [(52, s_impl_ValidMesh), (53, s_impl_VectorText), (54, s_impl_decimals)] [] [(36, s_strings_Builder_WriteString), (38, s_strings_Builder_String)] 52 a_impl_MeshText 0
noncomputable def fr_impl_MeshText_5 (vs : List V3) (ts : List (List Int)) (l : List UInt8) (n i : Int) : Fr := [(1, .ptr 0 0), (4, .bptr 1), (26, .vec tV vs), (27, .int .i64 n), (28, .int .i64 i)]
noncomputable def hp_impl_MeshText_5 (vs : List V3) (ts : List (List Int)) (l : List UInt8) (n i : Int) : Heap := [.box [.vec tV vs, .vec (.slice tI) ts], .bld 70 5 l]
theorem r_impl_MeshText_5 (vs : List V3) (ts : List (List Int)) (l : List UInt8) (n i : Int) (Kn : Fr → Heap → Prop) (K : V → Heap → Prop) : round c_impl_MeshText ⟨[1,4,26,27,28],2,false⟩ (lb c_impl_MeshText 5 Tryd.f20) (fr_impl_MeshText_5 vs ts l n i) (hp_impl_MeshText_5 vs ts l n i) Kn (lk c_impl_MeshText 5 Tryd.f20 [] K) =
  cond (decide (i < n))
    (cond (decide (0 ≤ i))
      ((match vs[Int.toNat i]? with
        | some y0 => cond (Nat.blt (2 + List.length (numT [Prod.fst y0, Prod.fst (Prod.snd y0), Prod.snd (Prod.snd y0)])) 9223372036854775808)
          (cond (Nat.blt (List.length (Array.toList (ByteArray.data { data := #[118, 32] }) ++ numT [Prod.fst y0, Prod.fst (Prod.snd y0), Prod.snd (Prod.snd y0)]) + 1) 9223372036854775808)
            (cond (decide (List.length l + List.length (Array.toList (ByteArray.data { data := #[118, 32] }) ++ numT [Prod.fst y0, Prod.fst (Prod.snd y0), Prod.snd (Prod.snd y0)] ++ Array.toList (ByteArray.data { data := #[10] })) ≤ 140737488355328))
              (Kn [(1, (.ptr 0 0)), (4, (.bptr 1)), (26, (.vec (.pair (.float .f32) (.pair (.float .f32) (.float .f32))) (vs))), (27, (.int .i64 (n))), (28, (.int .i64 (IntKind.wrap IntKind.i64 (i + 1))))] [(.box [(.vec (.pair (.float .f32) (.pair (.float .f32) (.float .f32))) (vs)), (.vec (.slice (.int .i64)) (ts))]), (.bld 70 5 (l ++ (Array.toList (ByteArray.data { data := #[118, 32] }) ++ numT [Prod.fst y0, Prod.fst (Prod.snd y0), Prod.snd (Prod.snd y0)] ++ Array.toList (ByteArray.data { data := #[10] }))))])
              (False))
            (False))
          (False)
        | none => False))
      (False))
    (LoopE c_impl_MeshText ⟨[4, 39, 40, 41], 2, false⟩ (lb c_impl_MeshText 10 Tryd.f20) [(4, (.bptr 1)), (39, (.vec (.slice (.int .i64)) (ts))), (40, (.int .i64 ((↑(List.length ts) : Int)))), (41, (.int .i64 0))] [(.box [(.vec (.pair (.float .f32) (.pair (.float .f32) (.float .f32))) (vs)), (.vec (.slice (.int .i64)) (ts))]), (.bld 70 5 (l))] (lk c_impl_MeshText 10 Tryd.f20 [] K)) := by kernel_rfl
noncomputable def fr_impl_MeshText_10 (vs : List V3) (ts : List (List Int)) (l : List UInt8) (n i : Int) : Fr := [(4, .bptr 1), (39, .vec (.slice tI) ts), (40, .int .i64 n), (41, .int .i64 i)]
noncomputable def hp_impl_MeshText_10 (vs : List V3) (ts : List (List Int)) (l : List UInt8) (n i : Int) : Heap := [.box [.vec tV vs, .vec (.slice tI) ts], .bld 70 5 l]
theorem r_impl_MeshText_10 (vs : List V3) (ts : List (List Int)) (l : List UInt8) (n i : Int) (Kn : Fr → Heap → Prop) (K : V → Heap → Prop) : round c_impl_MeshText ⟨[4,39,40,41],2,false⟩ (lb c_impl_MeshText 10 Tryd.f20) (fr_impl_MeshText_10 vs ts l n i) (hp_impl_MeshText_10 vs ts l n i) Kn (lk c_impl_MeshText 10 Tryd.f20 [] K) =
  cond (decide (i < n))
    (cond (decide (0 ≤ i))
      ((match ts[Int.toNat i]? with
        | some y0 => cond (decide (List.length y0 ≤ 63) && List.all y0 rngB)
          (cond (Nat.blt (2 + List.length (decT y0)) 9223372036854775808)
            (cond (Nat.blt (List.length (Array.toList (ByteArray.data { data := #[102, 32] }) ++ decT y0) + 1) 9223372036854775808)
              (cond (decide (List.length l + List.length (Array.toList (ByteArray.data { data := #[102, 32] }) ++ decT y0 ++ Array.toList (ByteArray.data { data := #[10] })) ≤ 140737488355328))
                (Kn [(4, (.bptr 1)), (39, (.vec (.slice (.int .i64)) (ts))), (40, (.int .i64 (n))), (41, (.int .i64 (IntKind.wrap IntKind.i64 (i + 1))))] [(.box [(.vec (.pair (.float .f32) (.pair (.float .f32) (.float .f32))) (vs)), (.vec (.slice (.int .i64)) (ts))]), (.bld 70 5 (l ++ (Array.toList (ByteArray.data { data := #[102, 32] }) ++ decT y0 ++ Array.toList (ByteArray.data { data := #[10] }))))])
                (False))
              (False))
            (False))
          (False)
        | none => False))
      (False))
    (cond (decide (List.length l ≤ 140737488355328))
      (K (.tuple [(.str (l)), (.bool true)]) [])
      (False)) := by kernel_rfl
theorem w_impl_MeshText (vs : List V3) (ts : List (List Int)) (K : V → Heap → Prop) : wpFn c_impl_MeshText Tryd.f20 (encAs [.agg tM] ((vs, ts), ())) [] K =
  cond (!validM vs ts)
    (K (.tuple [(.str (Array.toList (ByteArray.data { data := #[] }))), (.bool false)]) [])
    (cond (decide ((↑(List.length vs) : Int) > 100))
      (K (.tuple [(.str (Array.toList (ByteArray.data { data := #[] }))), (.bool false)]) [])
      (cond (decide ((↑(List.length ts) : Int) > 200))
        (K (.tuple [(.str (Array.toList (ByteArray.data { data := #[] }))), (.bool false)]) [])
        (LoopE c_impl_MeshText ⟨[1, 4, 26, 27, 28], 2, false⟩ (lb c_impl_MeshText 5 Tryd.f20) [(1, (.ptr 0 0)), (4, (.bptr 1)), (26, (.vec (.pair (.float .f32) (.pair (.float .f32) (.float .f32))) (vs))), (27, (.int .i64 ((↑(List.length vs) : Int)))), (28, (.int .i64 0))] [(.box [(.vec (.pair (.float .f32) (.pair (.float .f32) (.float .f32))) (vs)), (.vec (.slice (.int .i64)) (ts))]), (.bld 70 5 ([]))] (lk c_impl_MeshText 5 Tryd.f20 [] K)))) := by kernel_rfl
noncomputable def s_impl_MeshText : Sm := semT [.agg tM] fun x => match x with | ((vs, ts), _) => .tuple [.str (bif okM vs ts then meshX vs ts else []), .bool (okM vs ts)]
theorem ok_impl_MeshText : FnOk Tryd.prog 20 s_impl_MeshText := fnOk_typed (fnOk_runC (C := c_impl_MeshText) rfl mixed (.cons ok_impl_ValidMesh (.cons ok_impl_VectorText (.cons ok_impl_decimals .nil))) .nil (.cons ok_strings_Builder_WriteString (.cons ok_strings_Builder_String .nil)) Tryd.func20 (by kernel_rfl)) fun (x : (((List V3) × (List (List Int))) × Unit)) wf K h => by
  obtain ⟨⟨vs, ts⟩, ⟨⟩⟩ := x
  replace h : K (.tuple [.str (bif okM vs ts then meshX vs ts else []), .bool (okM vs ts)]) [] := h
  rw [w_impl_MeshText vs ts K]
  unfold okM at h
  cases hv : validM vs ts with
  | false => rw [hv] at h; exact h
  | true =>
  rw [hv, Bool.true_and] at h
  simp only [Bool.not_true, cond_false]
  by_cases hp : vs.length ≤ 100
  · rw [d_t hp, Bool.true_and] at h
    rw [d_f (show ¬ (vs.length : Int) > 100 by omega)]
    simp only [cond_false]
    by_cases hf : ts.length ≤ 200
    · rw [d_t hf] at h
      rw [d_f (show ¬ (ts.length : Int) > 200 by omega)]
      simp only [cond_false, cond_true] at h ⊢
      have hsm := faces_small hp hv
      refine loop_run (σ := Nat × List UInt8) (fun p => fr_impl_MeshText_5 vs ts p.2 vs.length p.1) (fun p => hp_impl_MeshText_5 vs ts p.2 vs.length p.1) (fun p => p.1 ≤ vs.length ∧ p.2 = (vs.take p.1).flatMap placeT) (fun p => vs.length - p.1) ?_ (0, []) ⟨Nat.zero_le _, rfl⟩
      rintro ⟨i, l⟩ ⟨hi, hl⟩ Kn hk
      simp only at hi hl hk ⊢
      rw [r_impl_MeshText_5 vs ts l vs.length i Kn K]
      have hlen : l.length ≤ 3400 := by
        have := flat_len (f := placeT) (B := 34) (xs := vs.take i) fun v _ => (placeT_le v).2
        rw [List.length_take] at this
        rw [hl]; omega
      by_cases hlt : i < vs.length
      · simp only [d_lt hlt, d_0, cond_true, Int.toNat_natCast, get_lt hlt]
        have next : ∀ l', l' = l ++ placeT (vs[i]'hlt) → Kn (fr_impl_MeshText_5 vs ts l' vs.length ((i : Int) + 1)) (hp_impl_MeshText_5 vs ts l' vs.length i) := fun l' e =>
          hk (i + 1, l') ⟨hlt, by simp only; rw [flat_take placeT hlt, e, hl]⟩ (by simp only; omega)
        generalize vs[i]'hlt = y at *
        obtain ⟨l1, l2⟩ := placeT_le y
        have b1 : Nat.blt (2 + (numT [y.1, y.2.1, y.2.2]).length) 9223372036854775808 = true := blt_big (by omega)
        have b2 : Nat.blt (([118, 32] ++ numT [y.1, y.2.1, y.2.2]).length + 1) 9223372036854775808 = true := blt_big (by simp only [List.length_append, List.length_cons, List.length_nil]; omega)
        rw [i64_of (n := (i : Int) + 1) (by omega) (by omega)]
        change cond (Nat.blt (2 + (numT [y.1, y.2.1, y.2.2]).length) 9223372036854775808) (cond (Nat.blt (([118, 32] ++ numT [y.1, y.2.1, y.2.2]).length + 1) 9223372036854775808) (cond (decide (l.length + (placeT y).length ≤ 140737488355328)) (Kn _ _) False) False) False
        rw [b1, b2, d_t (show l.length + (placeT y).length ≤ 140737488355328 by omega)]
        exact next _ rfl
      · have : i = vs.length := by omega
        subst this
        simp only [d_nlt hlt, cond_false]
        rw [List.take_length] at hl
        refine loop_run (σ := Nat × List UInt8) (fun p => fr_impl_MeshText_10 vs ts p.2 ts.length p.1) (fun p => hp_impl_MeshText_10 vs ts p.2 ts.length p.1) (fun p => p.1 ≤ ts.length ∧ p.2 = vs.flatMap placeT ++ (ts.take p.1).flatMap faceT) (fun p => ts.length - p.1) ?_ (0, l) ⟨Nat.zero_le _, by simp [hl]⟩
        subst hl
        rintro ⟨j, l⟩ ⟨hj, hl⟩ Kn' hk'
        simp only at hj hl hk' ⊢
        rw [r_impl_MeshText_10 vs ts l ts.length j Kn' K]
        have hlen2 : l.length ≤ 18000 := by
          have := flat_len (f := faceT) (B := 73) (xs := ts.take j) fun t ht => (hsm t (List.mem_of_mem_take ht)).face
          rw [List.length_take] at this
          rw [hl, List.length_append]; omega
        by_cases hjl : j < ts.length
        · simp only [d_lt hjl, d_0, cond_true, Int.toNat_natCast, get_lt hjl]
          have hy := hsm _ (List.getElem_mem hjl)
          have next : ∀ l', l' = l ++ faceT (ts[j]'hjl) → Kn' (fr_impl_MeshText_10 vs ts l' ts.length ((j : Int) + 1)) (hp_impl_MeshText_10 vs ts l' ts.length j) := fun l' e =>
            hk' (j + 1, l') ⟨hjl, by simp only; rw [flat_take faceT hjl, e, hl, List.append_assoc]⟩ (by simp only; omega)
          generalize ts[j]'hjl = y at *
          have l1 := hy.dec
          have l2 := hy.face
          have b1 : Nat.blt (2 + (decT y).length) 9223372036854775808 = true := blt_big (by omega)
          have b2 : Nat.blt (([102, 32] ++ decT y).length + 1) 9223372036854775808 = true := blt_big (by simp only [List.length_append, List.length_cons, List.length_nil]; omega)
          rw [i64_of (n := (j : Int) + 1) (by omega) (by omega), hy.ok]
          change cond true (cond (Nat.blt (2 + (decT y).length) 9223372036854775808) (cond (Nat.blt (([102, 32] ++ decT y).length + 1) 9223372036854775808) (cond (decide (l.length + (faceT y).length ≤ 140737488355328)) (Kn' _ _) False) False) False) False
          rw [b1, b2, d_t (show l.length + (faceT y).length ≤ 140737488355328 by omega)]
          exact next _ rfl
        · have : j = ts.length := by omega
          subst this
          simp only [d_nlt hjl, cond_false]
          rw [List.take_length] at hl
          subst hl
          rw [d_t (show (vs.flatMap placeT ++ ts.flatMap faceT).length ≤ 140737488355328 by omega)]
          exact h
    · rw [d_f hf] at h
      rw [d_t (show (ts.length : Int) > 200 by omega)]
      exact h
  · rw [d_f hp, Bool.false_and] at h
    rw [d_t (show (vs.length : Int) > 100 by omega)]
    exact h

/-! spec.MeshText -/
noncomputable def a_spec_MeshText : Nat → Option Ann := fun n => bif Nat.beq n 5 then some ⟨[1,4,23,24],1,false⟩ else bif Nat.beq n 10 then some ⟨[1,4,40,41],1,false⟩ else none
noncomputable def c_spec_MeshText : Ctx := mkC Tryd.prog tyT [(47, s_spec_l07Is), (48, s_spec_l01VText), (49, s_spec_l01Text)] [] [] 56 a_spec_MeshText 0
noncomputable def fr_spec_MeshText_5 (vs : List V3) (ts : List (List Int)) (out : List UInt8) (n i : Int) : Fr := [(1, .ptr 0 0), (4, .str out), (23, .int .i64 n), (24, .int .i64 i)]
noncomputable def hp_spec_MeshText_5 (vs : List V3) (ts : List (List Int)) (out : List UInt8) (n i : Int) : Heap := [.box [.vec tV vs, .vec (.slice tI) ts]]
theorem r_spec_MeshText_5 (vs : List V3) (ts : List (List Int)) (out : List UInt8) (n i : Int) (Kn : Fr → Heap → Prop) (K : V → Heap → Prop) : round c_spec_MeshText ⟨[1,4,23,24],1,false⟩ (lb c_spec_MeshText 5 Tryd.f18) (fr_spec_MeshText_5 vs ts out n i) (hp_spec_MeshText_5 vs ts out n i) Kn (lk c_spec_MeshText 5 Tryd.f18 [] K) =
  cond (decide (i < n))
    (cond (decide (0 ≤ i))
      ((match vs[Int.toNat i]? with
        | some y0 => cond (Nat.blt (2 + List.length (numT [Prod.fst y0, Prod.fst (Prod.snd y0), Prod.snd (Prod.snd y0)])) 9223372036854775808)
          (cond (Nat.blt (List.length (Array.toList (ByteArray.data { data := #[118, 32] }) ++ numT [Prod.fst y0, Prod.fst (Prod.snd y0), Prod.snd (Prod.snd y0)]) + 1) 9223372036854775808)
            (cond (Nat.blt (List.length out + List.length (Array.toList (ByteArray.data { data := #[118, 32] }) ++ numT [Prod.fst y0, Prod.fst (Prod.snd y0), Prod.snd (Prod.snd y0)] ++ Array.toList (ByteArray.data { data := #[10] }))) 9223372036854775808)
              (Kn [(1, (.ptr 0 0)), (4, (.str (out ++ (Array.toList (ByteArray.data { data := #[118, 32] }) ++ numT [Prod.fst y0, Prod.fst (Prod.snd y0), Prod.snd (Prod.snd y0)] ++ Array.toList (ByteArray.data { data := #[10] }))))), (23, (.int .i64 (n))), (24, (.int .i64 (IntKind.wrap IntKind.i64 (i + 1))))] [(.box [(.vec (.pair (.float .f32) (.pair (.float .f32) (.float .f32))) (vs)), (.vec (.slice (.int .i64)) (ts))])])
              (False))
            (False))
          (False)
        | none => False))
      (False))
    (LoopE c_spec_MeshText ⟨[1, 4, 40, 41], 1, false⟩ (lb c_spec_MeshText 10 Tryd.f18) [(1, (.ptr 0 0)), (4, (.str (out))), (40, (.int .i64 ((↑(List.length ts) : Int)))), (41, (.int .i64 0))] [(.box [(.vec (.pair (.float .f32) (.pair (.float .f32) (.float .f32))) (vs)), (.vec (.slice (.int .i64)) (ts))])] (lk c_spec_MeshText 10 Tryd.f18 [] K)) := by kernel_rfl
noncomputable def fr_spec_MeshText_10 (vs : List V3) (ts : List (List Int)) (out : List UInt8) (n i : Int) : Fr := [(1, .ptr 0 0), (4, .str out), (40, .int .i64 n), (41, .int .i64 i)]
noncomputable def hp_spec_MeshText_10 (vs : List V3) (ts : List (List Int)) (out : List UInt8) (n i : Int) : Heap := [.box [.vec tV vs, .vec (.slice tI) ts]]
theorem r_spec_MeshText_10 (vs : List V3) (ts : List (List Int)) (out : List UInt8) (n i : Int) (Kn : Fr → Heap → Prop) (K : V → Heap → Prop) : round c_spec_MeshText ⟨[1,4,40,41],1,false⟩ (lb c_spec_MeshText 10 Tryd.f18) (fr_spec_MeshText_10 vs ts out n i) (hp_spec_MeshText_10 vs ts out n i) Kn (lk c_spec_MeshText 10 Tryd.f18 [] K) =
  cond (decide (i < n))
    (cond (decide (0 ≤ i))
      ((match ts[Int.toNat i]? with
        | some y0 => cond (decide (List.length y0 ≤ 63) && List.all y0 rngB)
          (cond (Nat.blt (2 + List.length (decT y0)) 9223372036854775808)
            (cond (Nat.blt (List.length (Array.toList (ByteArray.data { data := #[102, 32] }) ++ decT y0) + 1) 9223372036854775808)
              (cond (Nat.blt (List.length out + List.length (Array.toList (ByteArray.data { data := #[102, 32] }) ++ decT y0 ++ Array.toList (ByteArray.data { data := #[10] }))) 9223372036854775808)
                (Kn [(1, (.ptr 0 0)), (4, (.str (out ++ (Array.toList (ByteArray.data { data := #[102, 32] }) ++ decT y0 ++ Array.toList (ByteArray.data { data := #[10] }))))), (40, (.int .i64 (n))), (41, (.int .i64 (IntKind.wrap IntKind.i64 (i + 1))))] [(.box [(.vec (.pair (.float .f32) (.pair (.float .f32) (.float .f32))) (vs)), (.vec (.slice (.int .i64)) (ts))])])
                (False))
              (False))
            (False))
          (False)
        | none => False))
      (False))
    (K (.tuple [(.str (out)), (.bool true)]) []) := by kernel_rfl
theorem w_spec_MeshText (vs : List V3) (ts : List (List Int)) (K : V → Heap → Prop) : wpFn c_spec_MeshText Tryd.f18 (encAs [.agg tM] ((vs, ts), ())) [] K =
  cond (!validM vs ts)
    (K (.tuple [(.str (Array.toList (ByteArray.data { data := #[] }))), (.bool false)]) [])
    (cond (decide ((↑(List.length vs) : Int) > 100))
      (K (.tuple [(.str (Array.toList (ByteArray.data { data := #[] }))), (.bool false)]) [])
      (cond (decide ((↑(List.length ts) : Int) > 200))
        (K (.tuple [(.str (Array.toList (ByteArray.data { data := #[] }))), (.bool false)]) [])
        (LoopE c_spec_MeshText ⟨[1, 4, 23, 24], 1, false⟩ (lb c_spec_MeshText 5 Tryd.f18) [(1, (.ptr 0 0)), (4, (.str (Array.toList (ByteArray.data { data := #[] })))), (23, (.int .i64 ((↑(List.length vs) : Int)))), (24, (.int .i64 0))] [(.box [(.vec (.pair (.float .f32) (.pair (.float .f32) (.float .f32))) (vs)), (.vec (.slice (.int .i64)) (ts))])] (lk c_spec_MeshText 5 Tryd.f18 [] K)))) := by kernel_rfl
noncomputable def s_spec_MeshText : Sm := semT [.agg tM] fun x => match x with | ((vs, ts), _) => .tuple [.str (bif okM vs ts then meshX vs ts else []), .bool (okM vs ts)]
theorem ok_spec_MeshText : FnOk Tryd.prog 18 s_spec_MeshText := fnOk_typed (fnOk_runC (C := c_spec_MeshText) rfl mixed (.cons ok_spec_l07Is (.cons ok_spec_l01VText (.cons ok_spec_l01Text .nil))) .nil .nil Tryd.func18 (by kernel_rfl)) fun (x : (((List V3) × (List (List Int))) × Unit)) wf K h => by
  obtain ⟨⟨vs, ts⟩, ⟨⟩⟩ := x
  replace h : K (.tuple [.str (bif okM vs ts then meshX vs ts else []), .bool (okM vs ts)]) [] := h
  rw [w_spec_MeshText vs ts K]
  unfold okM at h
  cases hv : validM vs ts with
  | false => rw [hv] at h; exact h
  | true =>
  rw [hv, Bool.true_and] at h
  simp only [Bool.not_true, cond_false]
  by_cases hp : vs.length ≤ 100
  · rw [d_t hp, Bool.true_and] at h
    rw [d_f (show ¬ (vs.length : Int) > 100 by omega)]
    simp only [cond_false]
    by_cases hf : ts.length ≤ 200
    · rw [d_t hf] at h
      rw [d_f (show ¬ (ts.length : Int) > 200 by omega)]
      simp only [cond_false, cond_true] at h ⊢
      have hsm := faces_small hp hv
      refine loop_run (σ := Nat × List UInt8) (fun p => fr_spec_MeshText_5 vs ts p.2 vs.length p.1) (fun p => hp_spec_MeshText_5 vs ts [] vs.length 0) (fun p => p.1 ≤ vs.length ∧ p.2 = (vs.take p.1).flatMap placeT) (fun p => vs.length - p.1) ?_ (0, []) ⟨Nat.zero_le _, rfl⟩
      rintro ⟨i, l⟩ ⟨hi, hl⟩ Kn hk
      simp only at hi hl hk ⊢
      rw [show hp_spec_MeshText_5 vs ts [] vs.length 0 = hp_spec_MeshText_5 vs ts l vs.length i from rfl, r_spec_MeshText_5 vs ts l vs.length i Kn K]
      have hlen : l.length ≤ 3400 := by
        have := flat_len (f := placeT) (B := 34) (xs := vs.take i) fun v _ => (placeT_le v).2
        rw [List.length_take] at this
        rw [hl]; omega
      by_cases hlt : i < vs.length
      · simp only [d_lt hlt, d_0, cond_true, Int.toNat_natCast, get_lt hlt]
        have next : ∀ l', l' = l ++ placeT (vs[i]'hlt) → Kn (fr_spec_MeshText_5 vs ts l' vs.length ((i : Int) + 1)) (hp_spec_MeshText_5 vs ts [] vs.length 0) := fun l' e =>
          hk (i + 1, l') ⟨hlt, by simp only; rw [flat_take placeT hlt, e, hl]⟩ (by simp only; omega)
        generalize vs[i]'hlt = y at *
        obtain ⟨l1, l2⟩ := placeT_le y
        have b1 : Nat.blt (2 + (numT [y.1, y.2.1, y.2.2]).length) 9223372036854775808 = true := blt_big (by omega)
        have b2 : Nat.blt (([118, 32] ++ numT [y.1, y.2.1, y.2.2]).length + 1) 9223372036854775808 = true := blt_big (by simp only [List.length_append, List.length_cons, List.length_nil]; omega)
        rw [i64_of (n := (i : Int) + 1) (by omega) (by omega)]
        change cond (Nat.blt (2 + (numT [y.1, y.2.1, y.2.2]).length) 9223372036854775808) (cond (Nat.blt (([118, 32] ++ numT [y.1, y.2.1, y.2.2]).length + 1) 9223372036854775808) (cond (Nat.blt (l.length + (placeT y).length) 9223372036854775808) (Kn _ _) False) False) False
        rw [b1, b2, blt_big (m := l.length + (placeT y).length) (by omega)]
        exact next _ rfl
      · have : i = vs.length := by omega
        subst this
        simp only [d_nlt hlt, cond_false]
        rw [List.take_length] at hl
        refine loop_run (σ := Nat × List UInt8) (fun p => fr_spec_MeshText_10 vs ts p.2 ts.length p.1) (fun p => hp_spec_MeshText_10 vs ts [] ts.length 0) (fun p => p.1 ≤ ts.length ∧ p.2 = vs.flatMap placeT ++ (ts.take p.1).flatMap faceT) (fun p => ts.length - p.1) ?_ (0, l) ⟨Nat.zero_le _, by simp [hl]⟩
        subst hl
        rintro ⟨j, l⟩ ⟨hj, hl⟩ Kn' hk'
        simp only at hj hl hk' ⊢
        rw [show hp_spec_MeshText_10 vs ts [] ts.length 0 = hp_spec_MeshText_10 vs ts l ts.length j from rfl, r_spec_MeshText_10 vs ts l ts.length j Kn' K]
        have hlen2 : l.length ≤ 18000 := by
          have := flat_len (f := faceT) (B := 73) (xs := ts.take j) fun t ht => (hsm t (List.mem_of_mem_take ht)).face
          rw [List.length_take] at this
          rw [hl, List.length_append]; omega
        by_cases hjl : j < ts.length
        · simp only [d_lt hjl, d_0, cond_true, Int.toNat_natCast, get_lt hjl]
          have hy := hsm _ (List.getElem_mem hjl)
          have next : ∀ l', l' = l ++ faceT (ts[j]'hjl) → Kn' (fr_spec_MeshText_10 vs ts l' ts.length ((j : Int) + 1)) (hp_spec_MeshText_10 vs ts [] ts.length 0) := fun l' e =>
            hk' (j + 1, l') ⟨hjl, by simp only; rw [flat_take faceT hjl, e, hl, List.append_assoc]⟩ (by simp only; omega)
          generalize ts[j]'hjl = y at *
          have l1 := hy.dec
          have l2 := hy.face
          have b1 : Nat.blt (2 + (decT y).length) 9223372036854775808 = true := blt_big (by omega)
          have b2 : Nat.blt (([102, 32] ++ decT y).length + 1) 9223372036854775808 = true := blt_big (by simp only [List.length_append, List.length_cons, List.length_nil]; omega)
          rw [i64_of (n := (j : Int) + 1) (by omega) (by omega), hy.ok]
          change cond true (cond (Nat.blt (2 + (decT y).length) 9223372036854775808) (cond (Nat.blt (([102, 32] ++ decT y).length + 1) 9223372036854775808) (cond (Nat.blt (l.length + (faceT y).length) 9223372036854775808) (Kn' _ _) False) False) False) False
          rw [b1, b2, blt_big (m := l.length + (faceT y).length) (by omega)]
          exact next _ rfl
        · have : j = ts.length := by omega
          subst this
          simp only [d_nlt hjl, cond_false]
          rw [List.take_length] at hl
          subst hl
          exact h
    · rw [d_f hf] at h
      rw [d_t (show (ts.length : Int) > 200 by omega)]
      exact h
  · rw [d_f hp, Bool.false_and] at h
    rw [d_t (show (vs.length : Int) > 100 by omega)]
    exact h

/-! laws.szInt64SS -/
noncomputable def a_laws_szInt64SS : Nat → Option Ann := fun n => bif Nat.beq n 5 then some ⟨[0,1,5],0,false⟩ else none
noncomputable def c_laws_szInt64SS : Ctx := mkC Tryd.prog tyT [(78, s_laws_szInt64S)] [] [] 27 a_laws_szInt64SS 0
noncomputable def fr_laws_szInt64SS_5 (xs : List (List Int)) (n i : Int) : Fr := [(0, .vec (.slice tI) xs), (1, .int .i64 n), (5, .int .i64 i)]
theorem r_laws_szInt64SS_5 (xs : List (List Int)) (n i : Int) (Kn : Fr → Heap → Prop) (K : V → Heap → Prop) : round c_laws_szInt64SS ⟨[0,1,5],0,false⟩ (lb c_laws_szInt64SS 5 Tryd.f46) (fr_laws_szInt64SS_5 xs n i) [] Kn (lk c_laws_szInt64SS 5 Tryd.f46 [] K) =
  cond (decide (i < (↑(List.length xs) : Int)))
    (cond (decide (0 ≤ i))
      ((match xs[Int.toNat i]? with
        | some y0 => cond (decide (n ≤ 1048576) && decide (0 ≤ n))
          (cond (decide (szV n (List.length y0) < 0))
            (K (.int .i64 (-1)) [])
            (Kn [(0, (.vec (.slice (.int .i64)) (xs))), (1, (.int .i64 (szV n (List.length y0)))), (5, (.int .i64 (IntKind.wrap IntKind.i64 (i + 1))))] []))
          (False)
        | none => False))
      (False))
    (K (.int .i64 (n)) []) := by kernel_rfl
theorem w_laws_szInt64SS (xs : List (List Int)) (n : Int) (K : V → Heap → Prop) : wpFn c_laws_szInt64SS Tryd.f46 (encAs [.cell (.slice (.slice tI)), .cell (.int .i64)] (xs, n, ())) [] K =
  cond (decide (IntKind.wrap IntKind.i64 (n - (↑(List.length xs) : Int)) < 0))
    (K (.int .i64 (-1)) [])
    (LoopE c_laws_szInt64SS ⟨[0, 1, 5], 0, false⟩ (lb c_laws_szInt64SS 5 Tryd.f46) [(0, (.vec (.slice (.int .i64)) (xs))), (1, (.int .i64 (IntKind.wrap IntKind.i64 (n - (↑(List.length xs) : Int))))), (5, (.int .i64 0))] [] (lk c_laws_szInt64SS 5 Tryd.f46 [] K)) := by kernel_rfl
noncomputable def s_laws_szInt64SS : Sm := semG [.cell (.slice (.slice tI)), .cell (.int .i64)] (fun x => match x with | (xs, n, _) => decide (n ≤ 1048576) && decide (0 ≤ n)) fun x => match x with | (xs, n, _) => .int .i64 (szV n (wList (List.length) xs))
theorem ok_laws_szInt64SS : FnOk Tryd.prog 46 s_laws_szInt64SS := fnOk_typedG (fnOk_runC (C := c_laws_szInt64SS) rfl mixed (.cons ok_laws_szInt64S .nil) .nil .nil Tryd.func46 (by kernel_rfl)) fun (x : ((List (List Int)) × (Int) × Unit)) wf hg K h => by
  obtain ⟨xs, n, ⟨⟩⟩ := x
  replace hg : (decide (n ≤ 1048576) && decide (0 ≤ n)) = true := hg
  replace h : K (.int .i64 (szV n (wList (List.length) xs))) [] := h
  rw [w_laws_szInt64SS xs n K]
  obtain ⟨⟨wl, wx⟩, wn, _⟩ := wf
  have wl' : xs.length ≤ 9223372036854775807 := wl
  simp only [Bool.and_eq_true, decide_eq_true_eq] at hg
  rw [i64_of (by omega) (by omega)]
  by_cases hn : n - (xs.length : Int) < 0
  · simp only [d_t hn, cond_true]
    rw [szV_no (w := wList (List.length) xs) (by have := wList_ge (List.length) xs; omega)] at h
    exact h
  · simp only [d_f hn, cond_false]
    have e0 : n - (xs.length : Int) = n - (xs.length : Int) - ((((xs.take 0).map (List.length)).sum : Nat) : Int) := by simp
    rw [e0]
    refine loop_run (σ := Nat) (fun i => fr_laws_szInt64SS_5 xs (n - (xs.length : Int) - ((xs.take i).map (List.length)).sum) i) (fun _ => []) (fun i => i ≤ xs.length ∧ (((xs.take i).map (List.length)).sum : Int) ≤ n - (xs.length : Int)) (fun i => xs.length - i) ?_ 0 ⟨Nat.zero_le _, by simp; omega⟩
    intro i hi Kn hk
    rw [r_laws_szInt64SS_5 xs (n - (xs.length : Int) - ((xs.take i).map (List.length)).sum) i Kn K]
    by_cases hlt : i < xs.length
    · simp only [d_lt hlt, d_0, cond_true, Int.toNat_natCast, get_lt hlt]
      have hs := sum_take (List.length) hlt
      have hle := sum_le (List.length) xs (i + 1)
      generalize hW : ((xs.take i).map (List.length)).sum = W at *
      have hg1 : n - (xs.length : Int) - (W : Int) ≤ 1048576 := by omega
      have hg2 : 0 ≤ n - (xs.length : Int) - (W : Int) := by omega
      simp only [d_t hg1, d_t hg2, Bool.and_self, cond_true]
      by_cases h1 : n - (xs.length : Int) - (W : Int) - (((List.length) (xs[i]'hlt) : Nat) : Int) < 0
      · simp only [szV_no h1, show decide ((-1 : Int) < 0) = true from rfl, cond_true]
        rw [szV_no (w := wList (List.length) xs) (by simp only [wList]; omega)] at h
        exact h
      · simp only [szV_ok (w := (List.length) (xs[i]'hlt)) (n := n - (xs.length : Int) - (W : Int)) (by omega), d_f h1, cond_false]
        rw [i64_of (by omega) (by omega)]
        have := hk (i + 1) ⟨hlt, by omega⟩ (by omega)
        rw [hs, show n - (xs.length : Int) - ((W + (List.length) (xs[i]'hlt) : Nat) : Int) = n - (xs.length : Int) - (W : Int) - (((List.length) (xs[i]'hlt) : Nat) : Int) by omega] at this
        exact this
    · have : i = xs.length := by omega
      subst this
      simp only [d_nlt hlt, cond_false, List.take_length]
      have h2 := hi.2
      rw [List.take_length] at h2
      rw [szV_ok (w := wList (List.length) xs) (by simp only [wList]; omega), show n - ((wList (List.length) xs : Nat) : Int) = n - (xs.length : Int) - ((xs.map (List.length)).sum : Int) by simp only [wList]; omega] at h
      exact h


--B wMesh List (Nat × Nat × Nat) → List (List Int) → Nat
def wMesh (vs : List V3) (ts : List (List Int)) : Nat := vs.length + wList List.length ts

/-! laws.szMesh -/
noncomputable def c_laws_szMesh : Ctx := mkC Tryd.prog tyT [(45, s_laws_szVectorS), (46, s_laws_szInt64SS)] [] [] 18 (fun _ => none) 0
theorem w_laws_szMesh (vs : List V3) (ts : List (List Int)) (n : Int) (K : V → Heap → Prop) : wpFn c_laws_szMesh Tryd.f17 (encAs [.agg tM, .cell tI] ((vs, ts), n, ())) [] K =
  cond (decide (n ≤ 1048576) && decide (0 ≤ n))
    (cond (decide (szV n (List.length vs) < 0))
      (K (.int .i64 (-1)) [])
      (cond (decide (szV n (List.length vs) ≤ 1048576) && decide (0 ≤ szV n (List.length vs)))
        (cond (decide (szV (szV n (List.length vs)) (wList List.length ts) < 0))
          (K (.int .i64 (-1)) [])
          (K (.int .i64 (szV (szV n (List.length vs)) (wList List.length ts))) []))
        (False)))
    (False) := by kernel_rfl
noncomputable def s_laws_szMesh : Sm := semG [.agg tM, .cell tI] (fun x => match x with | ((vs, ts), n, _) => decide (n ≤ 1048576) && decide (0 ≤ n)) fun x => match x with | ((vs, ts), n, _) => .int .i64 (szV n (wMesh vs ts))
theorem ok_laws_szMesh : FnOk Tryd.prog 17 s_laws_szMesh := fnOk_typedG (fnOk_runC (C := c_laws_szMesh) rfl mixed (.cons ok_laws_szVectorS (.cons ok_laws_szInt64SS .nil)) .nil .nil Tryd.func17 (by kernel_rfl)) fun (x : (((List V3) × (List (List Int))) × (Int) × Unit)) wf hg K h => by
  obtain ⟨⟨vs, ts⟩, n, ⟨⟩⟩ := x
  replace hg : (decide (n ≤ 1048576) && decide (0 ≤ n)) = true := hg
  replace h : K (.int .i64 (szV n (wMesh vs ts))) [] := h
  rw [w_laws_szMesh vs ts n K]
  rw [hg]
  simp only [Bool.and_eq_true, decide_eq_true_eq] at hg
  simp only [cond_true]
  have e : wMesh vs ts = vs.length + wList List.length ts := rfl
  by_cases h1 : n - (vs.length : Int) < 0
  · rw [szV_no (w := wMesh vs ts) (by omega)] at h
    simp only [szV_no (w := vs.length) h1]
    exact h
  · simp only [szV_ok (n := n) (w := vs.length) (by omega), d_f h1, d_t (show n - (vs.length : Int) ≤ 1048576 by omega), d_t (show 0 ≤ n - (vs.length : Int) by omega), Bool.and_self, cond_true, cond_false]
    by_cases h2 : n - (vs.length : Int) - (wList List.length ts : Int) < 0
    · rw [szV_no (w := wMesh vs ts) (by omega)] at h
      simp only [szV_no h2]
      exact h
    · rw [szV_ok (w := wMesh vs ts) (by omega)] at h
      simp only [szV_ok (n := n - (vs.length : Int)) (w := wList List.length ts) (by omega), d_f h2, cond_false]
      rw [show n - ((wMesh vs ts : Nat) : Int) = n - (vs.length : Int) - (wList List.length ts : Int) by omega] at h
      exact h

/-! laws.toInt64SS -/
noncomputable def a_laws_toInt64SS : Nat → Option Ann := fun n => bif Nat.beq n 3 then some ⟨[0,3,4],1,false⟩ else none
noncomputable def c_laws_toInt64SS : Ctx := mkC Tryd.prog tyT [(82, s_laws_toInt64S)] [] [] 23 a_laws_toInt64SS 0
noncomputable def fr_laws_toInt64SS_3 (xs ys : List (List Int)) (i : Int) : Fr := [(0, .vec (.slice tI) xs), (3, .obj 0 0), (4, .int .i64 i)]
noncomputable def hp_laws_toInt64SS_3 (xs ys : List (List Int)) (i : Int) : Heap := [.sl 0 (.slice tI) ys]
theorem r_laws_toInt64SS_3 (xs ys : List (List Int)) (i : Int) (Kn : Fr → Heap → Prop) (K : V → Heap → Prop) : round c_laws_toInt64SS ⟨[0,3,4],1,false⟩ (lb c_laws_toInt64SS 3 Tryd.f51) (fr_laws_toInt64SS_3 xs ys i) (hp_laws_toInt64SS_3 xs ys i) Kn (lk c_laws_toInt64SS 3 Tryd.f51 [] K) =
  cond (decide (i < (↑(List.length xs) : Int)))
    (cond (decide (0 ≤ i))
      ((match xs[Int.toNat i]? with
        | some y0 => cond (decide (List.length y0 ≤ 1048576))
          (cond (decide (0 ≤ i) && Nat.blt (Int.toNat i) (List.length ys))
            ((match ys[Int.toNat i]? with
              | some x1 => Kn [(0, (.vec (.slice (.int .i64)) (xs))), (3, (.obj 0 0)), (4, (.int .i64 (IntKind.wrap IntKind.i64 (i + 1))))] [(.sl 0 (.slice (.int .i64)) (List.set ys (Int.toNat i) y0))]
              | none => False))
            (False))
          (False)
        | none => False))
      (False))
    (K (.vec (.slice (.int .i64)) (ys)) []) := by kernel_rfl
theorem w_laws_toInt64SS (xs : List (List Int)) (K : V → Heap → Prop) : wpFn c_laws_toInt64SS Tryd.f51 (encAs [.cell (.slice (.slice tI))] (xs, ())) [] K =
  cond (decide (0 ≤ (↑(List.length xs) : Int)) && (decide ((↑(List.length xs) : Int) ≤ (↑(List.length xs) : Int)) && decide ((↑24 : Int) * (↑(List.length xs) : Int) ≤ 281474976710656)))
    (LoopE c_laws_toInt64SS ⟨[0, 3, 4], 1, false⟩ (lb c_laws_toInt64SS 3 Tryd.f51) [(0, (.vec (.slice (.int .i64)) (xs))), (3, (.obj 0 0)), (4, (.int .i64 0))] [(.sl 0 (.slice (.int .i64)) (List.replicate (Int.toNat (↑(List.length xs) : Int)) []))] (lk c_laws_toInt64SS 3 Tryd.f51 [] K))
    (False) := by kernel_rfl
noncomputable def s_laws_toInt64SS : Sm := semG [.cell (.slice (.slice tI))] (fun x => match x with | (xs, _) => decide (xs.length ≤ 1048576) && xs.all fun y => decide (y.length ≤ 1048576)) fun x => match x with | (xs, _) => .vec (.slice tI) xs
theorem ok_laws_toInt64SS : FnOk Tryd.prog 51 s_laws_toInt64SS := fnOk_typedG (fnOk_runC (C := c_laws_toInt64SS) rfl mixed (.cons ok_laws_toInt64S .nil) .nil .nil Tryd.func51 (by kernel_rfl)) fun (x : ((List (List Int)) × Unit)) wf hg K h => by
  obtain ⟨xs, ⟨⟩⟩ := x
  replace hg : (decide (xs.length ≤ 1048576) && xs.all fun y => decide (y.length ≤ 1048576)) = true := hg
  replace h : K (.vec (.slice tI) xs) [] := h
  rw [w_laws_toInt64SS xs K]
  simp only [Bool.and_eq_true, decide_eq_true_eq] at hg
  obtain ⟨hg, hg2⟩ := hg
  rw [d_0, d_t (Int.le_refl _), d_t (by omega)]
  simp only [Bool.and_self, cond_true, Int.toNat_natCast]
  refine loop_run (σ := Nat) (fun i => fr_laws_toInt64SS_3 xs [] i) (fun i => hp_laws_toInt64SS_3 xs (xs.take i ++ List.replicate (xs.length - i) []) i) (fun i => i ≤ xs.length) (fun i => xs.length - i) ?_ 0 (Nat.zero_le _)
  intro i hi Kn hk
  rw [show fr_laws_toInt64SS_3 xs [] i = fr_laws_toInt64SS_3 xs (xs.take i ++ List.replicate (xs.length - i) []) i from rfl, r_laws_toInt64SS_3 xs (xs.take i ++ List.replicate (xs.length - i) []) i Kn K]
  by_cases hlt : i < xs.length
  · have hl : (xs.take i ++ List.replicate (xs.length - i) []).length = xs.length := by rw [List.length_append, List.length_take, List.length_replicate]; omega
    have hl' : i < (xs.take i ++ List.replicate (xs.length - i) []).length := by omega
    have hx : decide ((xs[i]'hlt).length ≤ 1048576) = true := List.all_eq_true.1 hg2 _ (List.getElem_mem hlt)
    simp only [d_lt hlt, d_0, cond_true, Int.toNat_natCast, get_lt hlt, blt_t hl', get_lt hl', Bool.and_self, hx]
    rw [i64_of (by omega) (by omega), copy_step hlt rfl rfl]
    exact hk (i + 1) hlt (by omega)
  · have : i = xs.length := by omega
    subst this
    simp only [d_nlt hlt, cond_false, List.take_length, Nat.sub_self, List.replicate_zero, List.append_nil]
    exact h

/-! laws.toMesh -/
noncomputable def c_laws_toMesh : Ctx := mkC Tryd.prog tyT [(50, s_laws_toVectorS), (51, s_laws_toInt64SS)] [] [] 13 (fun _ => none) 0
theorem w_laws_toMesh (vs : List V3) (ts : List (List Int)) (K : V → Heap → Prop) : wpFn c_laws_toMesh Tryd.f19 (encAs [.agg tM] ((vs, ts), ())) [] K =
  cond (decide (List.length vs ≤ 1048576))
    (cond (decide (List.length ts ≤ 1048576) && List.all ts fun y => decide (List.length y ≤ 1048576))
      (K (.agg [(.vec (.pair (.float .f32) (.pair (.float .f32) (.float .f32))) (vs)), (.vec (.slice (.int .i64)) (ts))]) [])
      (False))
    (False) := by kernel_rfl
noncomputable def s_laws_toMesh : Sm := semG [.agg tM] (fun x => match x with | ((vs, ts), _) => decide (vs.length ≤ 1048576) && (decide (ts.length ≤ 1048576) && ts.all fun y => decide (y.length ≤ 1048576))) fun x => match x with | ((vs, ts), _) => .agg [.vec tV vs, .vec (.slice tI) ts]
theorem ok_laws_toMesh : FnOk Tryd.prog 19 s_laws_toMesh := fnOk_typedG (fnOk_runC (C := c_laws_toMesh) rfl mixed (.cons ok_laws_toVectorS (.cons ok_laws_toInt64SS .nil)) .nil .nil Tryd.func19 (by kernel_rfl)) fun (x : (((List V3) × (List (List Int))) × Unit)) wf hg K h => by
  obtain ⟨⟨vs, ts⟩, ⟨⟩⟩ := x
  replace hg : (decide (vs.length ≤ 1048576) && (decide (ts.length ≤ 1048576) && ts.all fun y => decide (y.length ≤ 1048576))) = true := hg
  replace h : K (.agg [.vec tV vs, .vec (.slice tI) ts]) [] := h
  rw [w_laws_toMesh vs ts K]
  simp only [Bool.and_eq_true] at hg
  rw [hg.1, hg.2.1, hg.2.2]
  exact h

/-! laws.eqMesh -/
noncomputable def c_laws_eqMesh : Ctx := mkC Tryd.prog tyT [(55, s_laws_eqVectorS), (56, s_laws_eqInt64SS)] [] [] 17 (fun _ => none) 0
theorem w_laws_eqMesh (vs : List V3) (ts : List (List Int)) (vs' : List V3) (ts' : List (List Int)) (K : V → Heap → Prop) : wpFn c_laws_eqMesh Tryd.f21 (encAs [.agg tM, .agg tM] ((vs, ts), (vs', ts'), ())) [] K =
  cond (vs == vs')
    (cond (ts == ts')
      (K (.bool true) [])
      (False))
    (False) := by kernel_rfl
noncomputable def s_laws_eqMesh : Sm := semG [.agg tM, .agg tM] (fun x => match x with | ((vs, ts), (vs', ts'), _) => vs == vs' && ts == ts') fun x => match x with | ((vs, ts), (vs', ts'), _) => .bool true
theorem ok_laws_eqMesh : FnOk Tryd.prog 21 s_laws_eqMesh := fnOk_typedG (fnOk_runC (C := c_laws_eqMesh) rfl mixed (.cons ok_laws_eqVectorS (.cons ok_laws_eqInt64SS .nil)) .nil .nil Tryd.func21 (by kernel_rfl)) fun (x : (((List V3) × (List (List Int))) × ((List V3) × (List (List Int))) × Unit)) wf hg K h => by
  obtain ⟨⟨vs, ts⟩, ⟨vs', ts'⟩, ⟨⟩⟩ := x
  replace hg : (vs == vs' && ts == ts') = true := hg
  replace h : K (.bool true) [] := h
  rw [w_laws_eqMesh vs ts vs' ts' K]
  simp only [Bool.and_eq_true] at hg
  rw [hg.1, hg.2]
  exact h

/-! laws.FnExactMeshText -/
noncomputable def c_laws_FnExactMeshText : Ctx := mkC Tryd.prog tyT [(17, s_laws_szMesh), (19, s_laws_toMesh), (18, s_spec_MeshText), (20, s_impl_MeshText), (21, s_laws_eqMesh)] [] [] 40 (fun _ => none) 0
theorem w_laws_FnExactMeshText (vs : List V3) (ts : List (List Int)) (K : V → Heap → Prop) : wpFn c_laws_FnExactMeshText Tryd.f5 (encAs [.agg tM] ((vs, ts), ())) [] K =
  cond (decide (szV 1048576 (wMesh vs ts) < 0))
    (K (.bool true) [])
    (cond (decide (List.length vs ≤ 1048576) && (decide (List.length ts ≤ 1048576) && List.all ts fun y => decide (List.length y ≤ 1048576)))
      (cond (decide (List.length vs ≤ 1048576) && (decide (List.length ts ≤ 1048576) && List.all ts fun y => decide (List.length y ≤ 1048576)))
        (cond (!bytesEq (bif okM vs ts then meshX vs ts else []) (bif okM vs ts then meshX vs ts else []))
          (K (.bool false) [])
          (cond (okM vs ts != okM vs ts)
            (K (.bool false) [])
            (cond (decide (List.length vs ≤ 1048576) && (decide (List.length ts ≤ 1048576) && List.all ts fun y => decide (List.length y ≤ 1048576)))
              (cond (vs == vs && ts == ts)
                (K (.bool true) [])
                (False))
              (False))))
        (False))
      (False)) := by kernel_rfl
noncomputable def s_laws_FnExactMeshText : Sm := semT [.agg tM] fun x => match x with | ((vs, ts), _) => .bool true
theorem ok_laws_FnExactMeshText : FnOk Tryd.prog 5 s_laws_FnExactMeshText := fnOk_typed (fnOk_runC (C := c_laws_FnExactMeshText) rfl mixed (.cons ok_laws_szMesh (.cons ok_laws_toMesh (.cons ok_spec_MeshText (.cons ok_impl_MeshText (.cons ok_laws_eqMesh .nil))))) .nil .nil Tryd.func5 (by kernel_rfl)) fun (x : (((List V3) × (List (List Int))) × Unit)) wf K h => by
  obtain ⟨⟨vs, ts⟩, ⟨⟩⟩ := x
  replace h : K (.bool true) [] := h
  rw [w_laws_FnExactMeshText vs ts K]
  by_cases h1 : (1048576 : Int) - (wMesh vs ts : Int) < 0
  · simp only [szV_no h1]
    exact h
  · have e1 : szV 1048576 (wMesh vs ts) = 1048576 - wMesh vs ts := szV_ok (by omega)
    have e : wMesh vs ts = vs.length + wList List.length ts := rfl
    have g1 := wList_ge List.length ts
    have hfit : (ts.all fun y => decide (y.length ≤ 1048576)) = true := List.all_eq_true.2 fun y hy => decide_eq_true (by
      have := mem_le List.length hy
      unfold wList at e
      omega)
    simp only [e1, d_f h1, cond_false, d_t (show vs.length ≤ 1048576 by omega), d_t (show ts.length ≤ 1048576 by omega), hfit, Bool.and_self, cond_true, bne_self_eq_false, beq_self_eq_true, bytesEq, Bool.not_true]
    exact h

end Go.Proofs.YtobdbgdgingjjaaDoor
