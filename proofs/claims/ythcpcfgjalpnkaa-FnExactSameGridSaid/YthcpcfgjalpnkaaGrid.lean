/- Grids: equality. -/
import Derived.Test.YthcpcfgjalpnkaaVec
set_option linter.unusedVariables false
namespace Go.Proofs.Ythcpcfgjalpnkaa
open Go.Ev
abbrev tI : Ty := .int .i64
abbrev tG : Ty := .pair tV (.pair tF (.pair tI (.pair tI (.pair tI (.slice tF)))))
def sameG (x y : tG.den) : Bool := sameV x.1 y.1 && (x.2.1 == y.2.1 && (x.2.2.1 == y.2.2.1 && (x.2.2.2.1 == y.2.2.2.1 && (x.2.2.2.2.1 == y.2.2.2.2.1 && x.2.2.2.2.2 == y.2.2.2.2.2))))

/-! laws.szGrid -/
noncomputable def c_laws_szGrid : Ctx := mkC Try.prog tyT [(61, s_laws_szFloat32S)] [] [] 12 (fun _ => none) 0
theorem w_laws_szGrid (a b c d : Nat) (i j k : Int) (xs : List Nat) (n : Int) (K : V → Heap → Prop) : wpFn c_laws_szGrid Try.f34 (encAs [.agg tG, .cell tI] (((a, b, c), d, i, j, k, xs), n, ())) [] K =
  cond (decide (n ≤ 1048576) && decide (0 ≤ n))
    (cond (decide ((bif decide (n - (↑(List.length xs) : AT.den (AT.cell (Ty.int IntKind.i64))) < 0) then -1 else n - (↑(List.length xs) : Int)) < 0))
      (K (.int (IntKind.i64) (-1)) [])
      (K (.int (IntKind.i64) (bif decide (n - (↑(List.length xs) : AT.den (AT.cell (Ty.int IntKind.i64))) < 0) then -1 else n - (↑(List.length xs) : Int))) []))
    (False) := by kernel_rfl
noncomputable def s_laws_szGrid : Sm := semG [.agg tG, .cell tI] (fun x => match x with | (((a, b, c), d, i, j, k, xs), n, _) => decide (n ≤ 1048576) && decide (0 ≤ n)) fun x => match x with | (((a, b, c), d, i, j, k, xs), n, _) => .int .i64 (bif decide (n - xs.length < 0) then (-1) else n - xs.length)
theorem ok_laws_szGrid : FnOk Try.prog 34 s_laws_szGrid := fnOk_typedG (fnOk_runC (C := c_laws_szGrid) rfl mixed (.cons ok_laws_szFloat32S .nil) .nil .nil Try.func34 (by kernel_rfl)) fun (x : ((((Nat) × (Nat) × (Nat)) × (Nat) × (Int) × (Int) × (Int) × (List Nat)) × (Int) × Unit)) wf hg K h => by
  obtain ⟨⟨⟨a, b, c⟩, d, i, j, k, xs⟩, n, ⟨⟩⟩ := x
  replace hg : (decide (n ≤ 1048576) && decide (0 ≤ n)) = true := hg
  replace h : K (.int .i64 (bif decide (n - xs.length < 0) then (-1) else n - xs.length)) [] := h
  rw [w_laws_szGrid a b c d i j k xs n K]
  rw [hg]
  cases e : decide (n - (xs.length : Int) < 0) with
  | true => simp only [e, cond_true] at h ⊢; exact h
  | false => simp only [e, cond_true, cond_false] at h ⊢; exact h

/-! laws.toGrid -/
noncomputable def c_laws_toGrid : Ctx := mkC Try.prog tyT [(10, s_laws_toVector), (63, s_laws_toFloat32S)] [] [] 25 (fun _ => none) 0
theorem w_laws_toGrid (a b c d : Nat) (i j k : Int) (xs : List Nat) (K : V → Heap → Prop) : wpFn c_laws_toGrid Try.f36 (encAs [.agg tG] (((a, b, c), d, i, j, k, xs), ())) [] K =
  cond (decide (List.length xs ≤ 1048576))
    (K (.agg [(.float (FloatKind.f32) (a)), (.float (FloatKind.f32) (b)), (.float (FloatKind.f32) (c)), (.float (FloatKind.f32) (d)), (.int (IntKind.i64) (i)), (.int (IntKind.i64) (j)), (.int (IntKind.i64) (k)), (.vec (Ty.float FloatKind.f32) (xs))]) [])
    (False) := by kernel_rfl
noncomputable def s_laws_toGrid : Sm := semG [.agg tG] (fun x => match x with | (((a, b, c), d, i, j, k, xs), _) => decide (xs.length ≤ 1048576)) fun x => match x with | (((a, b, c), d, i, j, k, xs), _) => .agg [.float .f32 a, .float .f32 b, .float .f32 c, .float .f32 d, .int .i64 i, .int .i64 j, .int .i64 k, .vec tF xs]
theorem ok_laws_toGrid : FnOk Try.prog 36 s_laws_toGrid := fnOk_typedG (fnOk_runC (C := c_laws_toGrid) rfl mixed (.cons ok_laws_toVector (.cons ok_laws_toFloat32S .nil)) .nil .nil Try.func36 (by kernel_rfl)) fun (x : ((((Nat) × (Nat) × (Nat)) × (Nat) × (Int) × (Int) × (Int) × (List Nat)) × Unit)) wf hg K h => by
  obtain ⟨⟨⟨a, b, c⟩, d, i, j, k, xs⟩, ⟨⟩⟩ := x
  replace hg : (decide (xs.length ≤ 1048576)) = true := hg
  replace h : K (.agg [.float .f32 a, .float .f32 b, .float .f32 c, .float .f32 d, .int .i64 i, .int .i64 j, .int .i64 k, .vec tF xs]) [] := h
  rw [w_laws_toGrid a b c d i j k xs K]
  rw [hg]; exact h

/-! spec.SameGrid -/
noncomputable def c_spec_SameGrid : Ctx := mkC Try.prog tyT [(39, s_spec_l01VSame), (47, s_spec_l01Same), (62, s_spec_l01SameAll)] [] [] 45 (fun _ => none) 0
theorem w_spec_SameGrid (a b c d : Nat) (i j k : Int) (xs : List Nat) (a' b' c' d' : Nat) (i' j' k' : Int) (xs' : List Nat) (K : V → Heap → Prop) : wpFn c_spec_SameGrid Try.f35 (encAs [.agg tG, .agg tG] (((a, b, c), d, i, j, k, xs), ((a', b', c'), d', i', j', k', xs'), ())) [] K =
  cond (sameV (a, b, c) (a', b', c'))
    (cond (d == d')
      (cond (i == i')
        (cond (j == j')
          (cond (k == k')
            (K (.bool (xs == xs')) [])
            (K (.bool false) []))
          (K (.bool false) []))
        (K (.bool false) []))
      (K (.bool false) []))
    (K (.bool false) []) := by kernel_rfl
noncomputable def s_spec_SameGrid : Sm := semT [.agg tG, .agg tG] fun x => match x with | (((a, b, c), d, i, j, k, xs), ((a', b', c'), d', i', j', k', xs'), _) => .bool (sameG ((a, b, c), d, i, j, k, xs) ((a', b', c'), d', i', j', k', xs'))
theorem ok_spec_SameGrid : FnOk Try.prog 35 s_spec_SameGrid := fnOk_typed (fnOk_runC (C := c_spec_SameGrid) rfl mixed (.cons ok_spec_l01VSame (.cons ok_spec_l01Same (.cons ok_spec_l01SameAll .nil))) .nil .nil Try.func35 (by kernel_rfl)) fun (x : ((((Nat) × (Nat) × (Nat)) × (Nat) × (Int) × (Int) × (Int) × (List Nat)) × (((Nat) × (Nat) × (Nat)) × (Nat) × (Int) × (Int) × (Int) × (List Nat)) × Unit)) wf K h => by
  obtain ⟨⟨⟨a, b, c⟩, d, i, j, k, xs⟩, ⟨⟨a', b', c'⟩, d', i', j', k', xs'⟩, ⟨⟩⟩ := x
  replace h : K (.bool (sameG ((a, b, c), d, i, j, k, xs) ((a', b', c'), d', i', j', k', xs'))) [] := h
  rw [w_spec_SameGrid a b c d i j k xs a' b' c' d' i' j' k' xs' K]
  revert h
  simp only [sameG]
  cases sameV (a, b, c) (a', b', c') <;> cases d == d' <;> cases i == i' <;> cases j == j' <;> cases k == k' <;> exact id

/-! (*impl.Grid).counts -/
noncomputable def c_impl_Grid_counts : Ctx := mkC Try.prog tyT [] [] [] 16 (fun _ => none) 0
theorem w_impl_Grid_counts (a b c d : Nat) (i j k : Int) (xs : List Nat) (K : V → Heap → Prop) : wpFn c_impl_Grid_counts Try.f76 (encAs [.ref tG] (((a, b, c), d, i, j, k, xs), ())) [] K =
  K (.agg [(.int (IntKind.i64) (i)), (.int (IntKind.i64) (j)), (.int (IntKind.i64) (k))]) [] := by kernel_rfl
noncomputable def s_impl_Grid_counts : Sm := semT [.ref tG] fun x => match x with | (((a, b, c), d, i, j, k, xs), _) => .agg [.int .i64 i, .int .i64 j, .int .i64 k]
theorem ok_impl_Grid_counts : FnOk Try.prog 76 s_impl_Grid_counts := fnOk_typed (fnOk_runC (C := c_impl_Grid_counts) rfl mixed .nil .nil .nil Try.func76 (by kernel_rfl)) fun (x : ((((Nat) × (Nat) × (Nat)) × (Nat) × (Int) × (Int) × (Int) × (List Nat)) × Unit)) wf K h => by
  obtain ⟨⟨⟨a, b, c⟩, d, i, j, k, xs⟩, ⟨⟩⟩ := x
  replace h : K (.agg [.int .i64 i, .int .i64 j, .int .i64 k]) [] := h
  rw [w_impl_Grid_counts a b c d i j k xs K]
  exact h

/-! impl.alike -/
noncomputable def c_impl_alike : Ctx := mkC Try.prog tyT [(11, s_impl_SameVector), (21, s_impl_SameNumber), (76, s_impl_Grid_counts)] [] [] 22 (fun _ => none) 0
theorem w_impl_alike (a b c d : Nat) (i j k : Int) (xs : List Nat) (a' b' c' d' : Nat) (i' j' k' : Int) (xs' : List Nat) (K : V → Heap → Prop) : wpFn c_impl_alike Try.f64 (encAs [.agg tG, .agg tG] (((a, b, c), d, i, j, k, xs), ((a', b', c'), d', i', j', k', xs'), ())) [] K =
  cond (sameV (a, b, c) (a', b', c'))
    (cond (d == d')
      (K (.bool (bif i == i' then bif j == j' then bif k == k' then true else false else false else false)) [])
      (K (.bool false) []))
    (K (.bool false) []) := by kernel_rfl
noncomputable def s_impl_alike : Sm := semT [.agg tG, .agg tG] fun x => match x with | (((a, b, c), d, i, j, k, xs), ((a', b', c'), d', i', j', k', xs'), _) => .bool (sameV (a, b, c) (a', b', c') && (d == d' && (i == i' && (j == j' && k == k'))))
theorem ok_impl_alike : FnOk Try.prog 64 s_impl_alike := fnOk_typed (fnOk_runC (C := c_impl_alike) rfl mixed (.cons ok_impl_SameVector (.cons ok_impl_SameNumber (.cons ok_impl_Grid_counts .nil))) .nil .nil Try.func64 (by kernel_rfl)) fun (x : ((((Nat) × (Nat) × (Nat)) × (Nat) × (Int) × (Int) × (Int) × (List Nat)) × (((Nat) × (Nat) × (Nat)) × (Nat) × (Int) × (Int) × (Int) × (List Nat)) × Unit)) wf K h => by
  obtain ⟨⟨⟨a, b, c⟩, d, i, j, k, xs⟩, ⟨⟨a', b', c'⟩, d', i', j', k', xs'⟩, ⟨⟩⟩ := x
  replace h : K (.bool (sameV (a, b, c) (a', b', c') && (d == d' && (i == i' && (j == j' && k == k'))))) [] := h
  rw [w_impl_alike a b c d i j k xs a' b' c' d' i' j' k' xs' K]
  revert h
  cases sameV (a, b, c) (a', b', c') <;> cases d == d' <;> cases i == i' <;> cases j == j' <;> cases k == k' <;> exact id

/-! impl.SameGrid -/
noncomputable def c_impl_SameGrid : Ctx := mkC Try.prog tyT [(64, s_impl_alike), (40, s_impl_sameList)] [] [] 15 (fun _ => none) 0
theorem w_impl_SameGrid (a b c d : Nat) (i j k : Int) (xs : List Nat) (a' b' c' d' : Nat) (i' j' k' : Int) (xs' : List Nat) (K : V → Heap → Prop) : wpFn c_impl_SameGrid Try.f37 (encAs [.agg tG, .agg tG] (((a, b, c), d, i, j, k, xs), ((a', b', c'), d', i', j', k', xs'), ())) [] K =
  cond (sameV (a, b, c) (a', b', c') && (d == d' && (i == i' && (j == j' && k == k'))))
    (K (.bool (xs == xs')) [])
    (K (.bool false) []) := by kernel_rfl
noncomputable def s_impl_SameGrid : Sm := semT [.agg tG, .agg tG] fun x => match x with | (((a, b, c), d, i, j, k, xs), ((a', b', c'), d', i', j', k', xs'), _) => .bool (sameG ((a, b, c), d, i, j, k, xs) ((a', b', c'), d', i', j', k', xs'))
theorem ok_impl_SameGrid : FnOk Try.prog 37 s_impl_SameGrid := fnOk_typed (fnOk_runC (C := c_impl_SameGrid) rfl mixed (.cons ok_impl_alike (.cons ok_impl_sameList .nil)) .nil .nil Try.func37 (by kernel_rfl)) fun (x : ((((Nat) × (Nat) × (Nat)) × (Nat) × (Int) × (Int) × (Int) × (List Nat)) × (((Nat) × (Nat) × (Nat)) × (Nat) × (Int) × (Int) × (Int) × (List Nat)) × Unit)) wf K h => by
  obtain ⟨⟨⟨a, b, c⟩, d, i, j, k, xs⟩, ⟨⟨a', b', c'⟩, d', i', j', k', xs'⟩, ⟨⟩⟩ := x
  replace h : K (.bool (sameG ((a, b, c), d, i, j, k, xs) ((a', b', c'), d', i', j', k', xs'))) [] := h
  rw [w_impl_SameGrid a b c d i j k xs a' b' c' d' i' j' k' xs' K]
  revert h
  simp only [sameG]
  cases sameV (a, b, c) (a', b', c') <;> cases d == d' <;> cases i == i' <;> cases j == j' <;> cases k == k' <;> exact id

/-! laws.eqGrid -/
noncomputable def c_laws_eqGrid : Ctx := mkC Try.prog tyT [(65, s_laws_eqVector), (66, s_laws_sameFloat), (67, s_laws_eqFloat32S)] [] [] 40 (fun _ => none) 0
theorem w_laws_eqGrid (a b c d : Nat) (i j k : Int) (xs : List Nat) (a' b' c' d' : Nat) (i' j' k' : Int) (xs' : List Nat) (K : V → Heap → Prop) : wpFn c_laws_eqGrid Try.f38 (encAs [.agg tG, .agg tG] (((a, b, c), d, i, j, k, xs), ((a', b', c'), d', i', j', k', xs'), ())) [] K =
  cond (a == a' && (b == b' && c == c'))
    (cond (widen d == widen d')
      (cond (i != i')
        (K (.bool false) [])
        (cond (j != j')
          (K (.bool false) [])
          (cond (k != k')
            (K (.bool false) [])
            (cond (xs == xs')
              (K (.bool true) [])
              (False)))))
      (False))
    (False) := by kernel_rfl
noncomputable def s_laws_eqGrid : Sm := semG [.agg tG, .agg tG] (fun x => match x with | (((a, b, c), d, i, j, k, xs), ((a', b', c'), d', i', j', k', xs'), _) => (a == a' && (b == b' && c == c')) && (d == d' && (i == i' && (j == j' && (k == k' && xs == xs'))))) fun x => match x with | (((a, b, c), d, i, j, k, xs), ((a', b', c'), d', i', j', k', xs'), _) => .bool true
theorem ok_laws_eqGrid : FnOk Try.prog 38 s_laws_eqGrid := fnOk_typedG (fnOk_runC (C := c_laws_eqGrid) rfl mixed (.cons ok_laws_eqVector (.cons ok_laws_sameFloat (.cons ok_laws_eqFloat32S .nil))) .nil .nil Try.func38 (by kernel_rfl)) fun (x : ((((Nat) × (Nat) × (Nat)) × (Nat) × (Int) × (Int) × (Int) × (List Nat)) × (((Nat) × (Nat) × (Nat)) × (Nat) × (Int) × (Int) × (Int) × (List Nat)) × Unit)) wf hg K h => by
  obtain ⟨⟨⟨a, b, c⟩, d, i, j, k, xs⟩, ⟨⟨a', b', c'⟩, d', i', j', k', xs'⟩, ⟨⟩⟩ := x
  replace hg : ((a == a' && (b == b' && c == c')) && (d == d' && (i == i' && (j == j' && (k == k' && xs == xs'))))) = true := hg
  replace h : K (.bool true) [] := h
  rw [w_laws_eqGrid a b c d i j k xs a' b' c' d' i' j' k' xs' K]
  simp only [Bool.and_eq_true, beq_iff_eq] at hg
  obtain ⟨⟨rfl, rfl, rfl⟩, rfl, rfl, rfl, rfl, rfl⟩ := hg
  simp only [beq_self_eq_true, bne_self_eq_false, Bool.and_self, cond_true, cond_false]
  exact h

/-! laws.FnExactSameGrid -/
noncomputable def c_laws_FnExactSameGrid : Ctx := mkC Try.prog tyT [(34, s_laws_szGrid), (36, s_laws_toGrid), (35, s_spec_SameGrid), (37, s_impl_SameGrid), (38, s_laws_eqGrid)] [] [] 45 (fun _ => none) 0
theorem w_laws_FnExactSameGrid (a b c d : Nat) (i j k : Int) (xs : List Nat) (a' b' c' d' : Nat) (i' j' k' : Int) (xs' : List Nat) (K : V → Heap → Prop) : wpFn c_laws_FnExactSameGrid Try.f8 (encAs [.agg tG, .agg tG] (((a, b, c), d, i, j, k, xs), ((a', b', c'), d', i', j', k', xs'), ())) [] K =
  cond (decide ((bif decide (1048576 - (↑(List.length xs) : AT.den (AT.cell tI)) < 0) then -1 else 1048576 - (↑(List.length xs) : Int)) < 0))
    (K (.bool true) [])
    (cond (decide ((bif decide (1048576 - (↑(List.length xs) : AT.den (AT.cell tI)) < 0) then -1 else 1048576 - (↑(List.length xs) : Int)) ≤ 1048576) && decide (0 ≤ bif decide (1048576 - (↑(List.length xs) : AT.den (AT.cell tI)) < 0) then -1 else 1048576 - (↑(List.length xs) : Int)))
      (cond (decide ((bif decide ((bif decide (1048576 - (↑(List.length xs) : AT.den (AT.cell tI)) < 0) then -1 else 1048576 - (↑(List.length xs) : Int)) - (↑(List.length xs') : AT.den (AT.cell tI)) < 0) then -1 else (bif decide (1048576 - (↑(List.length xs) : AT.den (AT.cell tI)) < 0) then -1 else 1048576 - (↑(List.length xs) : Int)) - (↑(List.length xs') : Int)) < 0))
        (K (.bool true) [])
        (cond (decide (List.length xs ≤ 1048576))
          (cond (decide (List.length xs' ≤ 1048576))
            (cond (decide (List.length xs ≤ 1048576))
              (cond (decide (List.length xs' ≤ 1048576))
                (cond (sameG ((a, b, c), d, i, j, k, xs) ((a', b', c'), d', i', j', k', xs') != sameG ((a, b, c), d, i, j, k, xs) ((a', b', c'), d', i', j', k', xs'))
                  (K (.bool false) [])
                  (cond (decide (List.length xs ≤ 1048576))
                    (cond (a == a && (b == b && c == c) && (d == d && (i == i && (j == j && (k == k && xs == xs)))))
                      (cond (decide (List.length xs' ≤ 1048576))
                        (cond (a' == a' && (b' == b' && c' == c') && (d' == d' && (i' == i' && (j' == j' && (k' == k' && xs' == xs')))))
                          (K (.bool true) [])
                          (False))
                        (False))
                      (False))
                    (False)))
                (False))
              (False))
            (False))
          (False)))
      (False)) := by kernel_rfl
noncomputable def s_laws_FnExactSameGrid : Sm := semT [.agg tG, .agg tG] fun x => match x with | (((a, b, c), d, i, j, k, xs), ((a', b', c'), d', i', j', k', xs'), _) => .bool true
theorem ok_laws_FnExactSameGrid : FnOk Try.prog 8 s_laws_FnExactSameGrid := fnOk_typed (fnOk_runC (C := c_laws_FnExactSameGrid) rfl mixed (.cons ok_laws_szGrid (.cons ok_laws_toGrid (.cons ok_spec_SameGrid (.cons ok_impl_SameGrid (.cons ok_laws_eqGrid .nil))))) .nil .nil Try.func8 (by kernel_rfl)) fun (x : ((((Nat) × (Nat) × (Nat)) × (Nat) × (Int) × (Int) × (Int) × (List Nat)) × (((Nat) × (Nat) × (Nat)) × (Nat) × (Int) × (Int) × (Int) × (List Nat)) × Unit)) wf K h => by
  obtain ⟨⟨⟨a, b, c⟩, d, i, j, k, xs⟩, ⟨⟨a', b', c'⟩, d', i', j', k', xs'⟩, ⟨⟩⟩ := x
  replace h : K (.bool true) [] := h
  rw [w_laws_FnExactSameGrid a b c d i j k xs a' b' c' d' i' j' k' xs' K]
  by_cases h1 : xs.length ≤ 1048576
  · have e1 : decide ((1048576 : Int) - (xs.length : Int) < 0) = false := d_f (by omega)
    have e2 : decide ((1048576 : Int) - (xs.length : Int) ≤ 1048576) = true := d_t (by omega)
    have e3 : decide (0 ≤ (1048576 : Int) - (xs.length : Int)) = true := d_t (by omega)
    simp only [e1, e2, e3, cond_false, cond_true, Bool.and_self, d_t h1, bne_self_eq_false, beq_self_eq_true]
    by_cases h2 : xs'.length ≤ 1048576
    · simp only [d_t h2, cond_true]
      by_cases h3 : (1048576 : Int) - (xs.length : Int) - (xs'.length : Int) < 0
      · simp only [d_t h3, cond_true]; exact h
      · simp only [d_f h3, cond_false]; exact h
    · have h3 : (1048576 : Int) - (xs.length : Int) - (xs'.length : Int) < 0 := by omega
      simp only [d_t h3, cond_true]; exact h
  · have e1 : decide ((1048576 : Int) - (xs.length : Int) < 0) = true := d_t (by omega)
    simp only [e1, cond_true]
    exact h

end Go.Proofs.Ythcpcfgjalpnkaa
