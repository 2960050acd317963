/- Meshes: equality. -/
import Derived.Test.YtobdbgdgingjjaaVec
set_option linter.unusedVariables false
set_option linter.unusedSimpArgs false
set_option maxRecDepth 100000
namespace Go.Proofs.Ytobdbgdgingjjaa
open Go.Ev
abbrev tM : Ty := .pair (.slice tV) (.slice (.slice tI))

def lens (xs : List (List Int)) : Nat := (xs.map List.length).sum
theorem lens_take_le (xs : List (List Int)) (i : Nat) : lens (xs.take i) ≤ lens xs := by
  have : lens xs = lens (xs.take i) + lens (xs.drop i) := by
    unfold lens
    rw [← List.sum_append, ← List.map_append, List.take_append_drop]
  omega
theorem lens_get_le {xs : List (List Int)} {y : List Int} (h : y ∈ xs) : y.length ≤ lens xs := by
  induction xs with
  | nil => cases h
  | cons x xs ih =>
    have e : lens (x :: xs) = x.length + lens xs := by simp [lens]
    rcases List.mem_cons.1 h with rfl | h'
    · omega
    · have := ih h'; omega

/-! laws.szInt64SS -/
noncomputable def a_laws_szInt64SS : Nat → Option Ann := fun n => bif Nat.beq n 5 then some ⟨[0, 1, 5], 0⟩ else none
noncomputable def c_laws_szInt64SS : Ctx := mkC Try.prog tyT [(92, s_laws_szInt64S)] [] [] 27 a_laws_szInt64SS 0
noncomputable def fr_laws_szInt64SS_5 (xs : List (List Int)) (n i : Int) : Fr := [(0, .vec (.slice tI) xs), (1, .int .i64 n), (5, .int .i64 i)]
theorem r_laws_szInt64SS_5 (xs : List (List Int)) (n i : Int) (Kn : Fr → Heap → Prop) (K : V → Heap → Prop) : round c_laws_szInt64SS ⟨[0, 1, 5], 0⟩ (lb c_laws_szInt64SS 5 Try.f38) (fr_laws_szInt64SS_5 xs n i) [] Kn (lk c_laws_szInt64SS 5 Try.f38 [] K) =
  cond (decide (i < (↑(List.length xs) : Int)))
    (cond (decide (0 ≤ i))
      ((match xs[Int.toNat i]? with
        | some y0 => cond (decide (n ≤ 1048576) && decide (0 ≤ n))
          (cond (decide ((bif decide (n - (↑(List.length y0) : Int) < 0) then -1 else n - (↑(List.length y0) : Int)) < 0))
            (K (.int .i64 (-1)) [])
            (Kn [(0, (.vec (.slice (.int .i64)) (xs))), (1, (.int .i64 (bif decide (n - (↑(List.length y0) : Int) < 0) then -1 else n - (↑(List.length y0) : Int)))), (5, (.int .i64 (IntKind.wrap IntKind.i64 (i + 1))))] []))
          (False)
        | none => False))
      (False))
    (K (.int .i64 (n)) []) := by kernel_rfl
theorem w_laws_szInt64SS (xs : List (List Int)) (n : Int) (K : V → Heap → Prop) : wpFn c_laws_szInt64SS Try.f38 (encAs [.cell (.slice (.slice tI)), .cell (.int .i64)] (xs, n, ())) [] K =
  cond (decide (IntKind.wrap IntKind.i64 (n - (↑(List.length xs) : Int)) < 0))
    (K (.int .i64 (-1)) [])
    (LoopE c_laws_szInt64SS ⟨[0, 1, 5], 0⟩ (lb c_laws_szInt64SS 5 Try.f38) [(0, (.vec (.slice (.int .i64)) (xs))), (1, (.int .i64 (IntKind.wrap IntKind.i64 (n - (↑(List.length xs) : Int))))), (5, (.int .i64 0))] [] (lk c_laws_szInt64SS 5 Try.f38 [] K)) := by kernel_rfl
noncomputable def s_laws_szInt64SS : Sm := semG [.cell (.slice (.slice tI)), .cell (.int .i64)] (fun x => match x with | (xs, n, _) => decide (n ≤ 1048576) && decide (0 ≤ n)) fun x => match x with | (xs, n, _) => .int .i64 (bif decide (n - xs.length - lens xs < 0) then (-1) else n - xs.length - lens xs)
theorem ok_laws_szInt64SS : FnOk Try.prog 38 s_laws_szInt64SS := fnOk_typedG (fnOk_runC (C := c_laws_szInt64SS) rfl mixed (.cons ok_laws_szInt64S .nil) .nil .nil Try.func38 (by kernel_rfl)) fun (x : ((List (List Int)) × (Int) × Unit)) wf hg K h => by
  obtain ⟨xs, n, ⟨⟩⟩ := x
  replace hg : (decide (n ≤ 1048576) && decide (0 ≤ n)) = true := hg
  replace h : K (.int .i64 (bif decide (n - xs.length - lens xs < 0) then (-1) else n - xs.length - lens xs)) [] := h
  rw [w_laws_szInt64SS xs n K]
  obtain ⟨⟨wl, _⟩, wn, _⟩ := wf
  have wl' : xs.length ≤ 9223372036854775807 := wl
  simp only [Bool.and_eq_true, decide_eq_true_eq] at hg
  rw [i64_of (by omega) (by omega)]
  by_cases h0 : n - (xs.length : Int) < 0
  · simp only [d_t h0, cond_true]
    have : n - (xs.length : Int) - (lens xs : Int) < 0 := by omega
    simp only [d_t this, cond_true] at h
    exact h
  · simp only [d_f h0, cond_false]
    refine loop_run (σ := Nat × Int) (fun p => fr_laws_szInt64SS_5 xs p.2 p.1) (fun _ => []) (fun p => p.1 ≤ xs.length ∧ 0 ≤ p.2 ∧ p.2 = n - xs.length - lens (xs.take p.1)) (fun p => xs.length - p.1) ?_ (0, n - xs.length) ⟨Nat.zero_le _, ?_, ?_⟩
    · rintro ⟨i, m⟩ ⟨hi, hm, he⟩ Kn hk
      simp only at hi hm he hk ⊢
      rw [r_laws_szInt64SS_5 xs m i Kn K]
      by_cases hlt : i < xs.length
      · have e1 : m ≤ 1048576 := by omega
        simp only [d_lt hlt, d_0, cond_true, Int.toNat_natCast, get_lt hlt, d_t e1, d_t hm, Bool.and_self]
        have hs : lens (xs.take (i + 1)) = lens (xs.take i) + (xs[i]'hlt).length := by
          rw [take_one hlt]; unfold lens; rw [List.map_append, List.sum_append]; simp
        by_cases hneg : m - ((xs[i]'hlt).length : Int) < 0
        · simp only [d_t hneg, cond_true]
          have := lens_take_le xs (i + 1)
          have : n - (xs.length : Int) - (lens xs : Int) < 0 := by omega
          simp only [d_t this, cond_true] at h
          exact h
        · simp only [d_f hneg, cond_false]
          rw [i64_of (by omega) (by omega)]
          exact hk (i + 1, m - ((xs[i]'hlt).length : Int)) ⟨hlt, by omega, by rw [hs]; omega⟩ (by simp only; omega)
      · have : i = xs.length := by omega
        subst this
        rw [List.take_length] at he
        have h3 : ¬ n - (xs.length : Int) - (lens xs : Int) < 0 := by omega
        simp only [d_nlt hlt, cond_false]
        simp only [d_f h3, cond_false] at h
        rw [he]
        exact h
    · omega
    · simp [lens]

/-! laws.toInt64SS -/
noncomputable def a_laws_toInt64SS : Nat → Option Ann := fun n => bif Nat.beq n 3 then some ⟨[0, 3, 4], 1⟩ else none
noncomputable def c_laws_toInt64SS : Ctx := mkC Try.prog tyT [(93, s_laws_toInt64S)] [] [] 23 a_laws_toInt64SS 0
noncomputable def fr_laws_toInt64SS_3 (xs ys : List (List Int)) (i : Int) : Fr := [(0, .vec (.slice tI) xs), (3, .obj 0 0), (4, .int .i64 i)]
noncomputable def hp_laws_toInt64SS_3 (xs ys : List (List Int)) (i : Int) : Heap := [.sl 0 (.slice tI) ys]
theorem r_laws_toInt64SS_3 (xs ys : List (List Int)) (i : Int) (Kn : Fr → Heap → Prop) (K : V → Heap → Prop) : round c_laws_toInt64SS ⟨[0, 3, 4], 1⟩ (lb c_laws_toInt64SS 3 Try.f42) (fr_laws_toInt64SS_3 xs ys i) (hp_laws_toInt64SS_3 xs ys i) Kn (lk c_laws_toInt64SS 3 Try.f42 [] K) =
  cond (decide (i < (↑(List.length xs) : Int)))
    (cond (decide (0 ≤ i))
      ((match xs[Int.toNat i]? with
        | some y0 => cond (decide (List.length y0 ≤ 1048576))
          (cond (decide (0 ≤ i) && Nat.blt (Int.toNat i) (List.length ys))
            ((match ys[Int.toNat i]? with
              | some x1 => Kn [(0, (.vec (.slice (.int .i64)) (xs))), (3, (.obj 0 0)), (4, (.int .i64 (IntKind.wrap IntKind.i64 (i + 1))))] [(.sl 0 (.slice (.int .i64)) (List.set ys (Int.toNat i) y0))]
              | none => False))
            (False))
          (False)
        | none => False))
      (False))
    (K (.vec (.slice (.int .i64)) (ys)) []) := by kernel_rfl
theorem w_laws_toInt64SS (xs : List (List Int)) (K : V → Heap → Prop) : wpFn c_laws_toInt64SS Try.f42 (encAs [.cell (.slice (.slice tI))] (xs, ())) [] K =
  cond (decide (0 ≤ (↑(List.length xs) : Int)) && (decide ((↑(List.length xs) : Int) ≤ (↑(List.length xs) : Int)) && decide ((↑24 : Int) * (↑(List.length xs) : Int) ≤ 281474976710656)))
    (LoopE c_laws_toInt64SS ⟨[0, 3, 4], 1⟩ (lb c_laws_toInt64SS 3 Try.f42) [(0, (.vec (.slice (.int .i64)) (xs))), (3, (.obj 0 0)), (4, (.int .i64 0))] [(.sl 0 (.slice (.int .i64)) (List.replicate (Int.toNat (↑(List.length xs) : Int)) []))] (lk c_laws_toInt64SS 3 Try.f42 [] K))
    (False) := by kernel_rfl
noncomputable def s_laws_toInt64SS : Sm := semG [.cell (.slice (.slice tI))] (fun x => match x with | (xs, _) => decide (xs.length ≤ 1048576) && xs.all fun y => decide (y.length ≤ 1048576)) fun x => match x with | (xs, _) => .vec (.slice tI) xs
theorem ok_laws_toInt64SS : FnOk Try.prog 42 s_laws_toInt64SS := fnOk_typedG (fnOk_runC (C := c_laws_toInt64SS) rfl mixed (.cons ok_laws_toInt64S .nil) .nil .nil Try.func42 (by kernel_rfl)) fun (x : ((List (List Int)) × Unit)) wf hg K h => by
  obtain ⟨xs, ⟨⟩⟩ := x
  replace hg : (decide (xs.length ≤ 1048576) && xs.all fun y => decide (y.length ≤ 1048576)) = true := hg
  replace h : K (.vec (.slice tI) xs) [] := h
  rw [w_laws_toInt64SS xs K]
  simp only [Bool.and_eq_true, decide_eq_true_eq] at hg
  obtain ⟨hg, hg2⟩ := hg
  rw [d_0, d_t (Int.le_refl _), d_t (by omega)]
  simp only [Bool.and_self, cond_true, Int.toNat_natCast]
  refine loop_run (σ := Nat) (fun i => fr_laws_toInt64SS_3 xs [] i) (fun i => hp_laws_toInt64SS_3 xs (xs.take i ++ List.replicate (xs.length - i) []) i) (fun i => i ≤ xs.length) (fun i => xs.length - i) ?_ 0 (Nat.zero_le _)
  intro i hi Kn hk
  rw [show fr_laws_toInt64SS_3 xs [] i = fr_laws_toInt64SS_3 xs (xs.take i ++ List.replicate (xs.length - i) []) i from rfl, r_laws_toInt64SS_3 xs (xs.take i ++ List.replicate (xs.length - i) []) i Kn K]
  by_cases hlt : i < xs.length
  · have hl : (xs.take i ++ List.replicate (xs.length - i) []).length = xs.length := by rw [List.length_append, List.length_take, List.length_replicate]; omega
    have hl' : i < (xs.take i ++ List.replicate (xs.length - i) []).length := by omega
    have hx : decide ((xs[i]'hlt).length ≤ 1048576) = true := List.all_eq_true.1 hg2 _ (List.getElem_mem hlt)
    simp only [d_lt hlt, d_0, cond_true, Int.toNat_natCast, get_lt hlt, blt_t hl', get_lt hl', Bool.and_self, hx]
    rw [i64_of (by omega) (by omega), copy_step hlt rfl rfl]
    exact hk (i + 1) hlt (by omega)
  · have : i = xs.length := by omega
    subst this
    simp only [d_nlt hlt, cond_false, List.take_length, Nat.sub_self, List.replicate_zero, List.append_nil]
    exact h

/-! laws.szMesh -/
noncomputable def c_laws_szMesh : Ctx := mkC Try.prog tyT [(37, s_laws_szVectorS), (38, s_laws_szInt64SS)] [] [] 18 (fun _ => none) 0
theorem w_laws_szMesh (vs : List V3) (ts : List (List Int)) (n : Int) (K : V → Heap → Prop) : wpFn c_laws_szMesh Try.f8 (encAs [.agg tM, .cell tI] ((vs, ts), n, ())) [] K =
  cond (decide (n ≤ 1048576) && decide (0 ≤ n))
    (cond (decide ((bif decide (n - (↑(List.length vs) : Int) < 0) then -1 else n - (↑(List.length vs) : Int)) < 0))
      (K (.int .i64 (-1)) [])
      (cond (decide ((bif decide (n - (↑(List.length vs) : Int) < 0) then -1 else n - (↑(List.length vs) : Int)) ≤ 1048576) && decide (0 ≤ bif decide (n - (↑(List.length vs) : Int) < 0) then -1 else n - (↑(List.length vs) : Int)))
        (cond (decide ((bif decide ((bif decide (n - (↑(List.length vs) : Int) < 0) then -1 else n - (↑(List.length vs) : Int)) - (↑(List.length ts) : Int) - (↑(lens ts) : Int) < 0) then -1 else (bif decide (n - (↑(List.length vs) : Int) < 0) then -1 else n - (↑(List.length vs) : Int)) - (↑(List.length ts) : Int) - (↑(lens ts) : Int)) < 0))
          (K (.int .i64 (-1)) [])
          (K (.int .i64 (bif decide ((bif decide (n - (↑(List.length vs) : Int) < 0) then -1 else n - (↑(List.length vs) : Int)) - (↑(List.length ts) : Int) - (↑(lens ts) : Int) < 0) then -1 else (bif decide (n - (↑(List.length vs) : Int) < 0) then -1 else n - (↑(List.length vs) : Int)) - (↑(List.length ts) : Int) - (↑(lens ts) : Int))) []))
        (False)))
    (False) := by kernel_rfl
noncomputable def s_laws_szMesh : Sm := semG [.agg tM, .cell tI] (fun x => match x with | ((vs, ts), n, _) => decide (n ≤ 1048576) && decide (0 ≤ n)) fun x => match x with | ((vs, ts), n, _) => .int .i64 (bif decide (n - vs.length - ts.length - lens ts < 0) then (-1) else n - vs.length - ts.length - lens ts)
theorem ok_laws_szMesh : FnOk Try.prog 8 s_laws_szMesh := fnOk_typedG (fnOk_runC (C := c_laws_szMesh) rfl mixed (.cons ok_laws_szVectorS (.cons ok_laws_szInt64SS .nil)) .nil .nil Try.func8 (by kernel_rfl)) fun (x : (((List V3) × (List (List Int))) × (Int) × Unit)) wf hg K h => by
  obtain ⟨⟨vs, ts⟩, n, ⟨⟩⟩ := x
  replace hg : (decide (n ≤ 1048576) && decide (0 ≤ n)) = true := hg
  replace h : K (.int .i64 (bif decide (n - vs.length - ts.length - lens ts < 0) then (-1) else n - vs.length - ts.length - lens ts)) [] := h
  rw [w_laws_szMesh vs ts n K]
  rw [hg]
  simp only [Bool.and_eq_true, decide_eq_true_eq] at hg
  by_cases h0 : n - (vs.length : Int) < 0
  · have e : n - (vs.length : Int) - (ts.length : Int) - (lens ts : Int) < 0 := by omega
    simp only [d_t h0, d_t e, cond_true] at h ⊢
    exact h
  · have e1 : n - (vs.length : Int) ≤ 1048576 := by omega
    have e2 : 0 ≤ n - (vs.length : Int) := by omega
    simp only [d_f h0, d_t e1, d_t e2, cond_true, cond_false, Bool.and_self]
    by_cases e : n - (vs.length : Int) - (ts.length : Int) - (lens ts : Int) < 0
    · simp only [d_t e, cond_true] at h ⊢
      exact h
    · simp only [d_f e, cond_false] at h ⊢
      exact h

/-! laws.toMesh -/
noncomputable def c_laws_toMesh : Ctx := mkC Try.prog tyT [(41, s_laws_toVectorS), (42, s_laws_toInt64SS)] [] [] 13 (fun _ => none) 0
theorem w_laws_toMesh (vs : List V3) (ts : List (List Int)) (K : V → Heap → Prop) : wpFn c_laws_toMesh Try.f10 (encAs [.agg tM] ((vs, ts), ())) [] K =
  cond (decide (List.length vs ≤ 1048576))
    (cond (decide (List.length ts ≤ 1048576) && List.all ts fun y => decide (List.length y ≤ 1048576))
      (K (.agg [(.vec (.pair (.float .f32) (.pair (.float .f32) (.float .f32))) (vs)), (.vec (.slice (.int .i64)) (ts))]) [])
      (False))
    (False) := by kernel_rfl
noncomputable def s_laws_toMesh : Sm := semG [.agg tM] (fun x => match x with | ((vs, ts), _) => decide (vs.length ≤ 1048576) && (decide (ts.length ≤ 1048576) && ts.all fun y => decide (y.length ≤ 1048576))) fun x => match x with | ((vs, ts), _) => .agg [.vec tV vs, .vec (.slice tI) ts]
theorem ok_laws_toMesh : FnOk Try.prog 10 s_laws_toMesh := fnOk_typedG (fnOk_runC (C := c_laws_toMesh) rfl mixed (.cons ok_laws_toVectorS (.cons ok_laws_toInt64SS .nil)) .nil .nil Try.func10 (by kernel_rfl)) fun (x : (((List V3) × (List (List Int))) × Unit)) wf hg K h => by
  obtain ⟨⟨vs, ts⟩, ⟨⟩⟩ := x
  replace hg : (decide (vs.length ≤ 1048576) && (decide (ts.length ≤ 1048576) && ts.all fun y => decide (y.length ≤ 1048576))) = true := hg
  replace h : K (.agg [.vec tV vs, .vec (.slice tI) ts]) [] := h
  rw [w_laws_toMesh vs ts K]
  simp only [Bool.and_eq_true] at hg
  rw [hg.1, hg.2.1, hg.2.2]
  exact h

/-! laws.eqMesh -/
noncomputable def c_laws_eqMesh : Ctx := mkC Try.prog tyT [(47, s_laws_eqVectorS), (48, s_laws_eqInt64SS)] [] [] 17 (fun _ => none) 0
theorem w_laws_eqMesh (vs : List V3) (ts : List (List Int)) (vs' : List V3) (ts' : List (List Int)) (K : V → Heap → Prop) : wpFn c_laws_eqMesh Try.f12 (encAs [.agg tM, .agg tM] ((vs, ts), (vs', ts'), ())) [] K =
  cond (vs == vs')
    (cond (ts == ts')
      (K (.bool true) [])
      (False))
    (False) := by kernel_rfl
noncomputable def s_laws_eqMesh : Sm := semG [.agg tM, .agg tM] (fun x => match x with | ((vs, ts), (vs', ts'), _) => vs == vs' && ts == ts') fun x => match x with | ((vs, ts), (vs', ts'), _) => .bool true
theorem ok_laws_eqMesh : FnOk Try.prog 12 s_laws_eqMesh := fnOk_typedG (fnOk_runC (C := c_laws_eqMesh) rfl mixed (.cons ok_laws_eqVectorS (.cons ok_laws_eqInt64SS .nil)) .nil .nil Try.func12 (by kernel_rfl)) fun (x : (((List V3) × (List (List Int))) × ((List V3) × (List (List Int))) × Unit)) wf hg K h => by
  obtain ⟨⟨vs, ts⟩, ⟨vs', ts'⟩, ⟨⟩⟩ := x
  replace hg : (vs == vs' && ts == ts') = true := hg
  replace h : K (.bool true) [] := h
  rw [w_laws_eqMesh vs ts vs' ts' K]
  simp only [Bool.and_eq_true] at hg
  rw [hg.1, hg.2]
  exact h

/-! impl.SameMesh -/
noncomputable def c_impl_SameMesh : Ctx := mkC Try.prog tyT [(43, s_slices_EqualFunc__implVector), (44, s_impl_SameVector), (45, s_slices_EqualFunc__int64), (46, s_slices_Equal__int64)] [] [] 17 (fun _ => none) 0
theorem w_impl_SameMesh (vs : List V3) (ts : List (List Int)) (vs' : List V3) (ts' : List (List Int)) (K : V → Heap → Prop) : wpFn c_impl_SameMesh Try.f11 (encAs [.agg tM, .agg tM] ((vs, ts), (vs', ts'), ())) [] K =
  cond (vs == vs')
    (K (.bool (ts == ts')) [])
    (K (.bool false) []) := by kernel_rfl
noncomputable def s_impl_SameMesh : Sm := semT [.agg tM, .agg tM] fun x => match x with | ((vs, ts), (vs', ts'), _) => .bool (vs == vs' && ts == ts')
theorem ok_impl_SameMesh : FnOk Try.prog 11 s_impl_SameMesh := fnOk_typed (fnOk_runC (C := c_impl_SameMesh) rfl mixed (.cons ok_slices_EqualFunc__implVector (.cons ok_impl_SameVector (.cons ok_slices_EqualFunc__int64 (.cons ok_slices_Equal__int64 .nil)))) .nil .nil Try.func11 (by kernel_rfl)) fun (x : (((List V3) × (List (List Int))) × ((List V3) × (List (List Int))) × Unit)) wf K h => by
  obtain ⟨⟨vs, ts⟩, ⟨vs', ts'⟩, ⟨⟩⟩ := x
  replace h : K (.bool (vs == vs' && ts == ts')) [] := h
  rw [w_impl_SameMesh vs ts vs' ts' K]
  revert h
  cases vs == vs' <;> exact id

/-! spec.SameMesh -/
noncomputable def a_spec_SameMesh : Nat → Option Ann := fun n => bif Nat.beq n 4 then some ⟨[2, 3, 25, 26], 2⟩ else bif Nat.beq n 10 then some ⟨[2, 3, 44, 45], 2⟩ else none
noncomputable def c_spec_SameMesh : Ctx := mkC Try.prog tyT [(39, s_spec_l01VSame), (40, s_spec_l00Same)] [] [] 61 a_spec_SameMesh 0
noncomputable def fr_spec_SameMesh_4 (vs : List V3) (ts : List (List Int)) (vs' : List V3) (ts' : List (List Int)) (n i : Int) : Fr := [(2, .ptr 0 0), (3, .ptr 1 0), (25, .int .i64 n), (26, .int .i64 i)]
noncomputable def hp_spec_SameMesh_4 (vs : List V3) (ts : List (List Int)) (vs' : List V3) (ts' : List (List Int)) (n i : Int) : Heap := [.box [.vec tV vs, .vec (.slice tI) ts], .box [.vec tV vs', .vec (.slice tI) ts']]
theorem r_spec_SameMesh_4 (vs : List V3) (ts : List (List Int)) (vs' : List V3) (ts' : List (List Int)) (n i : Int) (Kn : Fr → Heap → Prop) (K : V → Heap → Prop) : round c_spec_SameMesh ⟨[2, 3, 25, 26], 2⟩ (lb c_spec_SameMesh 4 Try.f9) (fr_spec_SameMesh_4 vs ts vs' ts' n i) (hp_spec_SameMesh_4 vs ts vs' ts' n i) Kn (lk c_spec_SameMesh 4 Try.f9 [] K) =
  cond (decide (i < n))
    (cond (decide (0 ≤ i))
      ((match vs[Int.toNat i]? with
        | some y0 => cond (decide (0 ≤ i))
          ((match vs'[Int.toNat i]? with
            | some y1 => cond (!y0 == y1)
              (K (.bool false) [])
              (Kn [(2, (.ptr 0 0)), (3, (.ptr 1 0)), (25, (.int .i64 (n))), (26, (.int .i64 (IntKind.wrap IntKind.i64 (i + 1))))] [(.box [(.vec (.pair (.float .f32) (.pair (.float .f32) (.float .f32))) (vs)), (.vec (.slice (.int .i64)) (ts))]), (.box [(.vec (.pair (.float .f32) (.pair (.float .f32) (.float .f32))) (vs')), (.vec (.slice (.int .i64)) (ts'))])])
            | none => False))
          (False)
        | none => False))
      (False))
    (LoopE c_spec_SameMesh ⟨[2, 3, 44, 45], 2⟩ (lb c_spec_SameMesh 10 Try.f9) [(2, (.ptr 0 0)), (3, (.ptr 1 0)), (44, (.int .i64 ((↑(List.length ts) : Int)))), (45, (.int .i64 0))] [(.box [(.vec (.pair (.float .f32) (.pair (.float .f32) (.float .f32))) (vs)), (.vec (.slice (.int .i64)) (ts))]), (.box [(.vec (.pair (.float .f32) (.pair (.float .f32) (.float .f32))) (vs')), (.vec (.slice (.int .i64)) (ts'))])] (lk c_spec_SameMesh 10 Try.f9 [] K)) := by kernel_rfl
noncomputable def fr_spec_SameMesh_10 (vs : List V3) (ts : List (List Int)) (vs' : List V3) (ts' : List (List Int)) (n i : Int) : Fr := [(2, .ptr 0 0), (3, .ptr 1 0), (44, .int .i64 n), (45, .int .i64 i)]
noncomputable def hp_spec_SameMesh_10 (vs : List V3) (ts : List (List Int)) (vs' : List V3) (ts' : List (List Int)) (n i : Int) : Heap := [.box [.vec tV vs, .vec (.slice tI) ts], .box [.vec tV vs', .vec (.slice tI) ts']]
theorem r_spec_SameMesh_10 (vs : List V3) (ts : List (List Int)) (vs' : List V3) (ts' : List (List Int)) (n i : Int) (Kn : Fr → Heap → Prop) (K : V → Heap → Prop) : round c_spec_SameMesh ⟨[2, 3, 44, 45], 2⟩ (lb c_spec_SameMesh 10 Try.f9) (fr_spec_SameMesh_10 vs ts vs' ts' n i) (hp_spec_SameMesh_10 vs ts vs' ts' n i) Kn (lk c_spec_SameMesh 10 Try.f9 [] K) =
  cond (decide (i < n))
    (cond (decide (0 ≤ i))
      ((match ts[Int.toNat i]? with
        | some y0 => cond (decide (0 ≤ i))
          ((match ts'[Int.toNat i]? with
            | some y1 => cond (!y0 == y1)
              (K (.bool false) [])
              (Kn [(2, (.ptr 0 0)), (3, (.ptr 1 0)), (44, (.int .i64 (n))), (45, (.int .i64 (IntKind.wrap IntKind.i64 (i + 1))))] [(.box [(.vec (.pair (.float .f32) (.pair (.float .f32) (.float .f32))) (vs)), (.vec (.slice (.int .i64)) (ts))]), (.box [(.vec (.pair (.float .f32) (.pair (.float .f32) (.float .f32))) (vs')), (.vec (.slice (.int .i64)) (ts'))])])
            | none => False))
          (False)
        | none => False))
      (False))
    (K (.bool true) []) := by kernel_rfl
theorem w_spec_SameMesh (vs : List V3) (ts : List (List Int)) (vs' : List V3) (ts' : List (List Int)) (K : V → Heap → Prop) : wpFn c_spec_SameMesh Try.f9 (encAs [.agg tM, .agg tM] ((vs, ts), (vs', ts'), ())) [] K =
  cond ((↑(List.length vs) : Int) != (↑(List.length vs') : Int))
    (K (.bool false) [])
    (cond ((↑(List.length ts) : Int) != (↑(List.length ts') : Int))
      (K (.bool false) [])
      (LoopE c_spec_SameMesh ⟨[2, 3, 25, 26], 2⟩ (lb c_spec_SameMesh 4 Try.f9) [(2, (.ptr 0 0)), (3, (.ptr 1 0)), (25, (.int .i64 ((↑(List.length vs) : Int)))), (26, (.int .i64 0))] [(.box [(.vec (.pair (.float .f32) (.pair (.float .f32) (.float .f32))) (vs)), (.vec (.slice (.int .i64)) (ts))]), (.box [(.vec (.pair (.float .f32) (.pair (.float .f32) (.float .f32))) (vs')), (.vec (.slice (.int .i64)) (ts'))])] (lk c_spec_SameMesh 4 Try.f9 [] K))) := by kernel_rfl
noncomputable def s_spec_SameMesh : Sm := semT [.agg tM, .agg tM] fun x => match x with | ((vs, ts), (vs', ts'), _) => .bool (vs == vs' && ts == ts')
theorem ok_spec_SameMesh : FnOk Try.prog 9 s_spec_SameMesh := fnOk_typed (fnOk_runC (C := c_spec_SameMesh) rfl mixed (.cons ok_spec_l01VSame (.cons ok_spec_l00Same .nil)) .nil .nil Try.func9 (by kernel_rfl)) fun (x : (((List V3) × (List (List Int))) × ((List V3) × (List (List Int))) × Unit)) wf K h => by
  obtain ⟨⟨vs, ts⟩, ⟨vs', ts'⟩, ⟨⟩⟩ := x
  replace h : K (.bool (vs == vs' && ts == ts')) [] := h
  rw [w_spec_SameMesh vs ts vs' ts' K]
  obtain ⟨⟨⟨wl, _⟩, wl2, _⟩, ⟨wl3, _⟩, wl4, _⟩ := wf
  have wl : vs.length ≤ 9223372036854775807 := wl
  have wl2 : ts.length ≤ 9223372036854775807 := wl2
  rw [bne_cast, bne_cast]
  by_cases hl : vs.length = vs'.length
  · rw [show (vs.length != vs'.length) = false by rw [hl]; exact bne_self_eq_false _]
    simp only [cond_false]
    by_cases hl2 : ts.length = ts'.length
    · rw [show (ts.length != ts'.length) = false by rw [hl2]; exact bne_self_eq_false _]
      simp only [cond_false]
      refine loop_run (σ := Nat) (fun i => fr_spec_SameMesh_4 vs ts vs' ts' vs.length i) (fun i => hp_spec_SameMesh_4 vs ts vs' ts' vs.length i) (fun i => i ≤ vs'.length ∧ vs.take i = vs'.take i) (fun i => vs'.length - i) ?_ 0 ⟨Nat.zero_le _, rfl⟩
      intro i hi Kn hk
      rw [r_spec_SameMesh_4 vs ts vs' ts' vs.length i Kn K]
      by_cases hlt : i < vs'.length
      · have hlx : i < vs.length := by omega
        simp only [d_lt hlx, d_0, cond_true, Int.toNat_natCast, get_lt hlt, get_lt hlx]
        by_cases he : vs[i]'hlx = vs'[i]'hlt
        · simp only [he, beq_self_eq_true, Bool.not_true, cond_false]
          rw [i64_of (by omega) (by omega)]
          refine hk (i + 1) ⟨hlt, ?_⟩ (by omega)
          rw [take_one hlx, take_one hlt, hi.2, he]
        · have hb : (vs[i]'hlx == vs'[i]'hlt) = false := beq_eq_false_iff_ne.2 he
          simp only [hb, Bool.not_false, cond_true]
          have hne : (vs == vs') = false := beq_eq_false_iff_ne.2 fun e => he (by simp only [e])
          rw [hne] at h; exact h
      · have hlx : ¬ i < vs.length := by omega
        simp only [d_nlt hlx, cond_false]
        have hvs : vs = vs' := by
          have := hi.2
          rwa [List.take_of_length_le (by omega), List.take_of_length_le (by omega)] at this
        rw [hvs, beq_self_eq_true, Bool.true_and] at h
        refine loop_run (σ := Nat) (fun i => fr_spec_SameMesh_10 vs ts vs' ts' ts.length i) (fun i => hp_spec_SameMesh_10 vs ts vs' ts' ts.length i) (fun i => i ≤ ts'.length ∧ ts.take i = ts'.take i) (fun i => ts'.length - i) ?_ 0 ⟨Nat.zero_le _, rfl⟩
        intro i hi Kn hk
        rw [r_spec_SameMesh_10 vs ts vs' ts' ts.length i Kn K]
        by_cases hlt : i < ts'.length
        · have hlx : i < ts.length := by omega
          simp only [d_lt hlx, d_0, cond_true, Int.toNat_natCast, get_lt hlt, get_lt hlx]
          by_cases he : ts[i]'hlx = ts'[i]'hlt
          · simp only [he, beq_self_eq_true, Bool.not_true, cond_false]
            rw [i64_of (by omega) (by omega)]
            refine hk (i + 1) ⟨hlt, ?_⟩ (by omega)
            rw [take_one hlx, take_one hlt, hi.2, he]
          · have hb : (ts[i]'hlx == ts'[i]'hlt) = false := beq_eq_false_iff_ne.2 he
            simp only [hb, Bool.not_false, cond_true]
            have hne : (ts == ts') = false := beq_eq_false_iff_ne.2 fun e => he (by simp only [e])
            rw [hne] at h; exact h
        · have hlx : ¬ i < ts.length := by omega
          simp only [d_nlt hlx, cond_false]
          have hts : ts = ts' := by
            have := hi.2
            rwa [List.take_of_length_le (by omega), List.take_of_length_le (by omega)] at this
          rw [hts, beq_self_eq_true] at h
          exact h
    · have e : (ts.length != ts'.length) = true := by simp [hl2]
      simp only [e, cond_true]
      have hne : (ts == ts') = false := beq_eq_false_iff_ne.2 fun e => hl2 (by rw [e])
      rw [hne, Bool.and_false] at h; exact h
  · have e : (vs.length != vs'.length) = true := by simp [hl]
    simp only [e, cond_true]
    have hne : (vs == vs') = false := beq_eq_false_iff_ne.2 fun e => hl (by rw [e])
    rw [hne, Bool.false_and] at h; exact h

/-! laws.FnExactSameMesh -/
noncomputable def c_laws_FnExactSameMesh : Ctx := mkC Try.prog tyT [(8, s_laws_szMesh), (10, s_laws_toMesh), (9, s_spec_SameMesh), (11, s_impl_SameMesh), (12, s_laws_eqMesh)] [] [] 45 (fun _ => none) 0
theorem w_laws_FnExactSameMesh (vs : List V3) (ts : List (List Int)) (vs' : List V3) (ts' : List (List Int)) (K : V → Heap → Prop) : wpFn c_laws_FnExactSameMesh Try.f3 (encAs [.agg tM, .agg tM] ((vs, ts), (vs', ts'), ())) [] K =
  cond (decide ((bif decide (1048576 - (↑(List.length vs) : Int) - (↑(List.length ts) : Int) - (↑(lens ts) : Int) < 0) then -1 else 1048576 - (↑(List.length vs) : Int) - (↑(List.length ts) : Int) - (↑(lens ts) : Int)) < 0))
    (K (.bool true) [])
    (cond (decide ((bif decide (1048576 - (↑(List.length vs) : Int) - (↑(List.length ts) : Int) - (↑(lens ts) : Int) < 0) then -1 else 1048576 - (↑(List.length vs) : Int) - (↑(List.length ts) : Int) - (↑(lens ts) : Int)) ≤ 1048576) && decide (0 ≤ bif decide (1048576 - (↑(List.length vs) : Int) - (↑(List.length ts) : Int) - (↑(lens ts) : Int) < 0) then -1 else 1048576 - (↑(List.length vs) : Int) - (↑(List.length ts) : Int) - (↑(lens ts) : Int)))
      (cond (decide ((bif decide ((bif decide (1048576 - (↑(List.length vs) : Int) - (↑(List.length ts) : Int) - (↑(lens ts) : Int) < 0) then -1 else 1048576 - (↑(List.length vs) : Int) - (↑(List.length ts) : Int) - (↑(lens ts) : Int)) - (↑(List.length vs') : Int) - (↑(List.length ts') : Int) - (↑(lens ts') : Int) < 0) then -1 else (bif decide (1048576 - (↑(List.length vs) : Int) - (↑(List.length ts) : Int) - (↑(lens ts) : Int) < 0) then -1 else 1048576 - (↑(List.length vs) : Int) - (↑(List.length ts) : Int) - (↑(lens ts) : Int)) - (↑(List.length vs') : Int) - (↑(List.length ts') : Int) - (↑(lens ts') : Int)) < 0))
        (K (.bool true) [])
        (cond (decide (List.length vs ≤ 1048576) && (decide (List.length ts ≤ 1048576) && List.all ts fun y => decide (List.length y ≤ 1048576)))
          (cond (decide (List.length vs' ≤ 1048576) && (decide (List.length ts' ≤ 1048576) && List.all ts' fun y => decide (List.length y ≤ 1048576)))
            (cond (decide (List.length vs ≤ 1048576) && (decide (List.length ts ≤ 1048576) && List.all ts fun y => decide (List.length y ≤ 1048576)))
              (cond (decide (List.length vs' ≤ 1048576) && (decide (List.length ts' ≤ 1048576) && List.all ts' fun y => decide (List.length y ≤ 1048576)))
                (cond ((vs == vs' && ts == ts') != (vs == vs' && ts == ts'))
                  (K (.bool false) [])
                  (cond (decide (List.length vs ≤ 1048576) && (decide (List.length ts ≤ 1048576) && List.all ts fun y => decide (List.length y ≤ 1048576)))
                    (cond (vs == vs && ts == ts)
                      (cond (decide (List.length vs' ≤ 1048576) && (decide (List.length ts' ≤ 1048576) && List.all ts' fun y => decide (List.length y ≤ 1048576)))
                        (cond (vs' == vs' && ts' == ts')
                          (K (.bool true) [])
                          (False))
                        (False))
                      (False))
                    (False)))
                (False))
              (False))
            (False))
          (False)))
      (False)) := by kernel_rfl
noncomputable def s_laws_FnExactSameMesh : Sm := semT [.agg tM, .agg tM] fun x => match x with | ((vs, ts), (vs', ts'), _) => .bool true
theorem ok_laws_FnExactSameMesh : FnOk Try.prog 3 s_laws_FnExactSameMesh := fnOk_typed (fnOk_runC (C := c_laws_FnExactSameMesh) rfl mixed (.cons ok_laws_szMesh (.cons ok_laws_toMesh (.cons ok_spec_SameMesh (.cons ok_impl_SameMesh (.cons ok_laws_eqMesh .nil))))) .nil .nil Try.func3 (by kernel_rfl)) fun (x : (((List V3) × (List (List Int))) × ((List V3) × (List (List Int))) × Unit)) wf K h => by
  obtain ⟨⟨vs, ts⟩, ⟨vs', ts'⟩, ⟨⟩⟩ := x
  replace h : K (.bool true) [] := h
  rw [w_laws_FnExactSameMesh vs ts vs' ts' K]
  have key : ∀ (n : Int) (vs : List V3) (ts : List (List Int)), n ≤ 1048576 → ¬ n - (vs.length : Int) - (ts.length : Int) - (lens ts : Int) < 0 → (decide (vs.length ≤ 1048576) && (decide (ts.length ≤ 1048576) && ts.all fun y => decide (y.length ≤ 1048576))) = true := by
    intro n vs ts h1 h2
    rw [d_t (show vs.length ≤ 1048576 by omega), d_t (show ts.length ≤ 1048576 by omega)]
    simp only [Bool.true_and, List.all_eq_true, decide_eq_true_eq]
    intro y hy
    have := lens_get_le hy
    omega
  by_cases h1 : (1048576 : Int) - (vs.length : Int) - (ts.length : Int) - (lens ts : Int) < 0
  · simp only [d_t h1, cond_true]; exact h
  · have e2 : (1048576 : Int) - (vs.length : Int) - (ts.length : Int) - (lens ts : Int) ≤ 1048576 := by omega
    have e3 : 0 ≤ (1048576 : Int) - (vs.length : Int) - (ts.length : Int) - (lens ts : Int) := by omega
    simp only [d_f h1, d_t e2, d_t e3, cond_false, cond_true, Bool.and_self]
    by_cases h2 : (1048576 : Int) - (vs.length : Int) - (ts.length : Int) - (lens ts : Int) - (vs'.length : Int) - (ts'.length : Int) - (lens ts' : Int) < 0
    · simp only [d_t h2, cond_true]; exact h
    · simp only [d_f h2, cond_false, key _ _ _ (by omega) h1, key _ _ _ e2 h2, cond_true, bne_self_eq_false, beq_self_eq_true, Bool.and_self]
      exact h

end Go.Proofs.Ytobdbgdgingjjaa
