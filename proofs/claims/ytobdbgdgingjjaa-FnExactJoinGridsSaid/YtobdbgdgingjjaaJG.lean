/- Grids joined: the program's and the reference's. -/
import Derived.Test.YtobdbgdgingjjaaShape
import Derived.Test.YtobdbgdgingjjaaFlE
set_option linter.unusedVariables false
set_option linter.unusedSimpArgs false
set_option maxRecDepth 100000
namespace Go.Proofs.Ytobdbgdgingjjaa
open Go.Ev
abbrev tG : Ty := .pair tV (.pair tF (.pair tI (.pair tI (.pair tI (.slice tF)))))
abbrev pG : List Po := [.imm tV, .imm tF, .imm tI, .imm tI, .imm tI, .own tF]
--B finV V3 → Bool
def finV (u : V3) : Bool := finN u.1 && (finN u.2.1 && finN u.2.2)
def mulG (i j k : Int) : Int := IntKind.i64.wrap (IntKind.i64.wrap (i * j) * k)
--B okG V3 → Nat → Int → Int → Int → Nat → Bool
def okG (u : V3) (d : Nat) (i j k : Int) (n : Nat) : Bool := finV u && (finN d && (fgt .f32 d 0 && (inR i 1 16 && (inR j 1 16 && (inR k 1 16 && (decide (mulG i j k ≤ 1024) && ((n : Int) == mulG i j k)))))))
--B mixJ Int → Nat → Nat → Nat
def mixJ (k : Int) (x y : Nat) : Nat := bif k == 5 then (bif flt .f32 y x then y else x) else (bif k == 6 then (bif fgt .f32 y x then y else x) else (bif fgt .f32 (fneg .f32 y) x then fneg .f32 y else x))
--B joinL Int → List Nat → List Nat → List Nat
def joinL (k : Int) (xs ys : List Nat) : List Nat := List.zipWith (mixJ k) xs ys
--B markF Int → Nat → List Nat
def markF (k : Int) (n : Nat) : List Nat := (List.range n).map fun (i : Nat) => FloatKind.f32.nearest (k + (i : Int))

/-! laws.szGrid -/
noncomputable def c_laws_szGrid : Ctx := mkC Try.prog tyT [(49, s_laws_szFloat32S)] [] [] 12 (fun _ => none) 0
theorem w_laws_szGrid (a b c d : Nat) (i j k : Int) (xs : List Nat) (n : Int) (K : V → Heap → Prop) : wpFn c_laws_szGrid Try.f13 (encAs [.agg tG, .cell tI] (((a, b, c), d, i, j, k, xs), n, ())) [] K =
  cond (decide (n ≤ 1048576) && decide (0 ≤ n))
    (cond (decide (szV n (List.length xs) < 0))
      (K (.int .i64 (-1)) [])
      (K (.int .i64 (szV n (List.length xs))) []))
    (False) := by kernel_rfl
noncomputable def s_laws_szGrid : Sm := semG [.agg tG, .cell tI] (fun x => match x with | (((a, b, c), d, i, j, k, xs), n, _) => decide (n ≤ 1048576) && decide (0 ≤ n)) fun x => match x with | (((a, b, c), d, i, j, k, xs), n, _) => .int .i64 (szV n xs.length)
theorem ok_laws_szGrid : FnOk Try.prog 13 s_laws_szGrid := fnOk_typedG (fnOk_runC (C := c_laws_szGrid) rfl mixed (.cons ok_laws_szFloat32S .nil) .nil .nil Try.func13 (by kernel_rfl)) fun (x : ((((Nat) × (Nat) × (Nat)) × (Nat) × (Int) × (Int) × (Int) × (List Nat)) × (Int) × Unit)) wf hg K h => by
  obtain ⟨⟨⟨a, b, c⟩, d, i, j, k, xs⟩, n, ⟨⟩⟩ := x
  replace hg : (decide (n ≤ 1048576) && decide (0 ≤ n)) = true := hg
  replace h : K (.int .i64 (szV n xs.length)) [] := h
  rw [w_laws_szGrid a b c d i j k xs n K]
  rw [hg]
  unfold szV at h ⊢
  cases e : decide (n - (xs.length : Int) < 0) with
  | true => simp only [e, cond_true] at h ⊢; exact h
  | false => simp only [e, cond_true, cond_false] at h ⊢; exact h

/-! laws.eqGrid -/
noncomputable def c_laws_eqGrid : Ctx := mkC Try.prog tyT [(61, s_laws_eqVector), (62, s_laws_sameFloat), (63, s_laws_eqFloat32S)] [] [] 40 (fun _ => none) 0
theorem w_laws_eqGrid (a b c d : Nat) (i j k : Int) (xs : List Nat) (a' b' c' d' : Nat) (i' j' k' : Int) (xs' : List Nat) (K : V → Heap → Prop) : wpFn c_laws_eqGrid Try.f17 (encAs [.agg tG, .agg tG] (((a, b, c), d, i, j, k, xs), ((a', b', c'), d', i', j', k', xs'), ())) [] K =
  cond ((a, b, c) == (a', b', c'))
    (cond (widen d == widen d')
      (cond (i != i')
        (K (.bool false) [])
        (cond (j != j')
          (K (.bool false) [])
          (cond (k != k')
            (K (.bool false) [])
            (cond (xs == xs')
              (K (.bool true) [])
              (False)))))
      (False))
    (False) := by kernel_rfl
noncomputable def s_laws_eqGrid : Sm := semG [.agg tG, .agg tG] (fun x => match x with | (((a, b, c), d, i, j, k, xs), ((a', b', c'), d', i', j', k', xs'), _) => (a == a' && (b == b' && c == c')) && (d == d' && (i == i' && (j == j' && (k == k' && xs == xs'))))) fun x => match x with | (((a, b, c), d, i, j, k, xs), ((a', b', c'), d', i', j', k', xs'), _) => .bool true
theorem ok_laws_eqGrid : FnOk Try.prog 17 s_laws_eqGrid := fnOk_typedG (fnOk_runC (C := c_laws_eqGrid) rfl mixed (.cons ok_laws_eqVector (.cons ok_laws_sameFloat (.cons ok_laws_eqFloat32S .nil))) .nil .nil Try.func17 (by kernel_rfl)) fun (x : ((((Nat) × (Nat) × (Nat)) × (Nat) × (Int) × (Int) × (Int) × (List Nat)) × (((Nat) × (Nat) × (Nat)) × (Nat) × (Int) × (Int) × (Int) × (List Nat)) × Unit)) wf hg K h => by
  obtain ⟨⟨⟨a, b, c⟩, d, i, j, k, xs⟩, ⟨⟨a', b', c'⟩, d', i', j', k', xs'⟩, ⟨⟩⟩ := x
  replace hg : ((a == a' && (b == b' && c == c')) && (d == d' && (i == i' && (j == j' && (k == k' && xs == xs'))))) = true := hg
  replace h : K (.bool true) [] := h
  rw [w_laws_eqGrid a b c d i j k xs a' b' c' d' i' j' k' xs' K]
  simp only [Bool.and_eq_true, beq_iff_eq] at hg
  obtain ⟨⟨rfl, rfl, rfl⟩, rfl, rfl, rfl, rfl, rfl⟩ := hg
  simp only [beq_self_eq_true, bne_self_eq_false, Bool.and_self, cond_true, cond_false]
  exact h

/-! (*impl.Grid).counts -/
noncomputable def c_impl_Grid_counts : Ctx := mkC Try.prog tyT [] [] [] 16 (fun _ => none) 0
theorem w_impl_Grid_counts (a b c d : Nat) (i j k : Int) (xs : List Nat) (K : V → Heap → Prop) : wpFn c_impl_Grid_counts Try.f106 (encAs [.ref tG] (((a, b, c), d, i, j, k, xs), ())) [] K =
  K (.agg [(.int .i64 (i)), (.int .i64 (j)), (.int .i64 (k))]) [] := by kernel_rfl
noncomputable def s_impl_Grid_counts : Sm := semT [.ref tG] fun x => match x with | (((a, b, c), d, i, j, k, xs), _) => .agg [.int .i64 i, .int .i64 j, .int .i64 k]
theorem ok_impl_Grid_counts : FnOk Try.prog 106 s_impl_Grid_counts := fnOk_typed (fnOk_runC (C := c_impl_Grid_counts) rfl mixed .nil .nil .nil Try.func106 (by kernel_rfl)) fun (x : ((((Nat) × (Nat) × (Nat)) × (Nat) × (Int) × (Int) × (Int) × (List Nat)) × Unit)) wf K h => by
  obtain ⟨⟨⟨a, b, c⟩, d, i, j, k, xs⟩, ⟨⟩⟩ := x
  replace h : K (.agg [.int .i64 i, .int .i64 j, .int .i64 k]) [] := h
  rw [w_impl_Grid_counts a b c d i j k xs K]
  exact h

/-! impl.alike -/
noncomputable def c_impl_alike : Ctx := mkC Try.prog tyT [(44, s_impl_SameVector), (107, s_impl_SameNumber), (106, s_impl_Grid_counts)] [] [] 22 (fun _ => none) 0
theorem w_impl_alike (a b c d : Nat) (i j k : Int) (xs : List Nat) (a' b' c' d' : Nat) (i' j' k' : Int) (xs' : List Nat) (K : V → Heap → Prop) : wpFn c_impl_alike Try.f57 (encAs [.agg tG, .agg tG] (((a, b, c), d, i, j, k, xs), ((a', b', c'), d', i', j', k', xs'), ())) [] K =
  cond ((a, b, c) == (a', b', c'))
    (cond (d == d')
      (K (.bool (bif i == i' then bif j == j' then bif k == k' then true else false else false else false)) [])
      (K (.bool false) []))
    (K (.bool false) []) := by kernel_rfl
noncomputable def s_impl_alike : Sm := semT [.agg tG, .agg tG] fun x => match x with | (((a, b, c), d, i, j, k, xs), ((a', b', c'), d', i', j', k', xs'), _) => .bool ((a, b, c) == (a', b', c') && (d == d' && (i == i' && (j == j' && k == k'))))
theorem ok_impl_alike : FnOk Try.prog 57 s_impl_alike := fnOk_typed (fnOk_runC (C := c_impl_alike) rfl mixed (.cons ok_impl_SameVector (.cons ok_impl_SameNumber (.cons ok_impl_Grid_counts .nil))) .nil .nil Try.func57 (by kernel_rfl)) fun (x : ((((Nat) × (Nat) × (Nat)) × (Nat) × (Int) × (Int) × (Int) × (List Nat)) × (((Nat) × (Nat) × (Nat)) × (Nat) × (Int) × (Int) × (Int) × (List Nat)) × Unit)) wf K h => by
  obtain ⟨⟨⟨a, b, c⟩, d, i, j, k, xs⟩, ⟨⟨a', b', c'⟩, d', i', j', k', xs'⟩, ⟨⟩⟩ := x
  replace h : K (.bool ((a, b, c) == (a', b', c') && (d == d' && (i == i' && (j == j' && k == k'))))) [] := h
  rw [w_impl_alike a b c d i j k xs a' b' c' d' i' j' k' xs' K]
  revert h
  cases ((a, b, c) == (a', b', c')) <;> cases d == d' <;> cases i == i' <;> cases j == j' <;> cases k == k' <;> exact id

/-! impl.finiteVector -/
noncomputable def c_impl_finiteVector : Ctx := mkC Try.prog tyT [(141, s_impl_finite)] [] [] 11 (fun _ => none) 0
theorem w_impl_finiteVector (u : V3) (K : V → Heap → Prop) : wpFn c_impl_finiteVector Try.f104 (encAs [.agg tV] (u, ())) [] K =
  K (.bool (!List.any [Prod.fst u, Prod.fst (Prod.snd u), Prod.snd (Prod.snd u)] fun x => !finN x)) [] := by kernel_rfl
noncomputable def s_impl_finiteVector : Sm := semT [.agg tV] fun x => match x with | (u, _) => .bool (finV u)
theorem ok_impl_finiteVector : FnOk Try.prog 104 s_impl_finiteVector := fnOk_typed (fnOk_runC (C := c_impl_finiteVector) rfl mixed (.cons ok_impl_finite .nil) .nil .nil Try.func104 (by kernel_rfl)) fun (x : ((V3) × Unit)) wf K h => by
  obtain ⟨u, ⟨⟩⟩ := x
  replace h : K (.bool (finV u)) [] := h
  rw [w_impl_finiteVector u K]
  have : (!List.any [u.1, u.2.1, u.2.2] fun x => !finN x) = finV u := by
    unfold finV
    simp only [List.any_cons, List.any_nil, Bool.not_or, Bool.not_not, Bool.not_false, Bool.and_true]
  rw [this]
  exact h

/-! spec.l01VFinite -/
noncomputable def c_spec_l01VFinite : Ctx := mkC Try.prog tyT [(98, s_spec_l01Finite)] [] [] 16 (fun _ => none) 0
theorem w_spec_l01VFinite (u : V3) (K : V → Heap → Prop) : wpFn c_spec_l01VFinite Try.f97 (encAs [.agg tV] (u, ())) [] K =
  cond (finN (Prod.fst u))
    (cond (finN (Prod.fst (Prod.snd u)))
      (K (.bool (finN (Prod.snd (Prod.snd u)))) [])
      (K (.bool false) []))
    (K (.bool false) []) := by kernel_rfl
noncomputable def s_spec_l01VFinite : Sm := semT [.agg tV] fun x => match x with | (u, _) => .bool (finV u)
theorem ok_spec_l01VFinite : FnOk Try.prog 97 s_spec_l01VFinite := fnOk_typed (fnOk_runC (C := c_spec_l01VFinite) rfl mixed (.cons ok_spec_l01Finite .nil) .nil .nil Try.func97 (by kernel_rfl)) fun (x : ((V3) × Unit)) wf K h => by
  obtain ⟨u, ⟨⟩⟩ := x
  replace h : K (.bool (finV u)) [] := h
  rw [w_spec_l01VFinite u K]
  revert h
  unfold finV
  cases finN u.1 <;> cases finN u.2.1 <;> exact id

/-! impl.stepOk -/
noncomputable def c_impl_stepOk : Ctx := mkC Try.prog tyT [(142, s_impl_IsFinite)] [] [] 9 (fun _ => none) 0
theorem w_impl_stepOk (d : Nat) (K : V → Heap → Prop) : wpFn c_impl_stepOk Try.f105 (encAs [.cell tF] (d, ())) [] K =
  cond (finN d)
    (K (.bool (fgt FloatKind.f32 d 0)) [])
    (K (.bool false) []) := by kernel_rfl
noncomputable def s_impl_stepOk : Sm := semT [.cell tF] fun x => match x with | (d, _) => .bool (finN d && fgt .f32 d 0)
theorem ok_impl_stepOk : FnOk Try.prog 105 s_impl_stepOk := fnOk_typed (fnOk_runC (C := c_impl_stepOk) rfl mixed (.cons ok_impl_IsFinite .nil) .nil .nil Try.func105 (by kernel_rfl)) fun (x : ((Nat) × Unit)) wf K h => by
  obtain ⟨d, ⟨⟩⟩ := x
  replace h : K (.bool (finN d && fgt .f32 d 0)) [] := h
  rw [w_impl_stepOk d K]
  revert h
  cases finN d <;> exact id

/-! spec.l06Counts -/
noncomputable def c_spec_l06Counts : Ctx := mkC Try.prog tyT [(51, s_spec_l00In)] [] [] 25 (fun _ => none) 0
theorem w_spec_l06Counts (i j k : Int) (K : V → Heap → Prop) : wpFn c_spec_l06Counts Try.f99 (encAs [.cell tI, .cell tI, .cell tI] (i, j, k, ())) [] K =
  cond (inR i 1 16)
    (cond (inR j 1 16)
      (cond (inR k 1 16)
        (K (.bool (decide (IntKind.wrap IntKind.i64 (IntKind.wrap IntKind.i64 (i * j) * k) ≤ 1024))) [])
        (K (.bool false) []))
      (K (.bool false) []))
    (K (.bool false) []) := by kernel_rfl
noncomputable def s_spec_l06Counts : Sm := semT [.cell tI, .cell tI, .cell tI] fun x => match x with | (i, j, k, _) => .bool (inR i 1 16 && (inR j 1 16 && (inR k 1 16 && decide (mulG i j k ≤ 1024))))
theorem ok_spec_l06Counts : FnOk Try.prog 99 s_spec_l06Counts := fnOk_typed (fnOk_runC (C := c_spec_l06Counts) rfl mixed (.cons ok_spec_l00In .nil) .nil .nil Try.func99 (by kernel_rfl)) fun (x : ((Int) × (Int) × (Int) × Unit)) wf K h => by
  obtain ⟨i, j, k, ⟨⟩⟩ := x
  replace h : K (.bool (inR i 1 16 && (inR j 1 16 && (inR k 1 16 && decide (mulG i j k ≤ 1024))))) [] := h
  rw [w_spec_l06Counts i j k K]
  revert h
  cases inR i 1 16 <;> cases inR j 1 16 <;> cases inR k 1 16 <;> exact id

/-! spec.l06Is -/
noncomputable def c_spec_l06Is : Ctx := mkC Try.prog tyT [(97, s_spec_l01VFinite), (98, s_spec_l01Finite), (99, s_spec_l06Counts)] [] [] 59 (fun _ => none) 0
theorem w_spec_l06Is (a b c d : Nat) (i j k : Int) (xs : List Nat) (K : V → Heap → Prop) : wpFn c_spec_l06Is Try.f50 (encAs [.ref tG] (((a, b, c), d, i, j, k, xs), ())) [] K =
  cond (finV (a, b, c))
    (cond (finN d)
      (cond (fgt FloatKind.f32 d 0)
        (cond (inR i 1 16 && (inR j 1 16 && (inR k 1 16 && decide (mulG i j k ≤ 1024))))
          (K (.bool ((↑(List.length xs) : Int) == IntKind.wrap IntKind.i64 (IntKind.wrap IntKind.i64 (i * j) * k))) [])
          (K (.bool false) []))
        (K (.bool false) []))
      (K (.bool false) []))
    (K (.bool false) []) := by kernel_rfl
noncomputable def s_spec_l06Is : Sm := semT [.ref tG] fun x => match x with | (((a, b, c), d, i, j, k, xs), _) => .bool (okG (a, b, c) d i j k xs.length)
theorem ok_spec_l06Is : FnOk Try.prog 50 s_spec_l06Is := fnOk_typed (fnOk_runC (C := c_spec_l06Is) rfl mixed (.cons ok_spec_l01VFinite (.cons ok_spec_l01Finite (.cons ok_spec_l06Counts .nil))) .nil .nil Try.func50 (by kernel_rfl)) fun (x : ((((Nat) × (Nat) × (Nat)) × (Nat) × (Int) × (Int) × (Int) × (List Nat)) × Unit)) wf K h => by
  obtain ⟨⟨⟨a, b, c⟩, d, i, j, k, xs⟩, ⟨⟩⟩ := x
  replace h : K (.bool (okG (a, b, c) d i j k xs.length)) [] := h
  rw [w_spec_l06Is a b c d i j k xs K]
  revert h
  unfold okG mulG
  cases finV (a, b, c) <;> cases finN d <;> cases fgt .f32 d 0 <;> cases inR i 1 16 <;> cases inR j 1 16 <;> cases inR k 1 16 <;> cases decide (IntKind.i64.wrap (IntKind.i64.wrap (i * j) * k) ≤ 1024) <;> exact id

/-! impl.ValidGrid -/
noncomputable def a_impl_ValidGrid : Nat → Option Ann := fun n => bif Nat.beq n 4 then some ⟨[1,16,17],1,false⟩ else none
noncomputable def c_impl_ValidGrid : Ctx := mkC Try.prog tyT [(104, s_impl_finiteVector), (105, s_impl_stepOk), (106, s_impl_Grid_counts), (58, s_impl_in)] [] [] 41 a_impl_ValidGrid 0
noncomputable def fr_impl_ValidGrid_4 (a b c d : Nat) (i j k : Int) (xs : List Nat) (n : Int) : Fr := [(1, .ptr 0 0), (16, .agg [.int .i64 i, .int .i64 j, .int .i64 k]), (17, .int .i64 n)]
noncomputable def hp_impl_ValidGrid_4 (a b c d : Nat) (i j k : Int) (xs : List Nat) (n : Int) : Heap := [.box [.float .f32 a, .float .f32 b, .float .f32 c, .float .f32 d, .int .i64 i, .int .i64 j, .int .i64 k, .vec tF xs]]
theorem r_impl_ValidGrid_4_0 (a b c d : Nat) (i j k : Int) (xs : List Nat) (Kn : Fr → Heap → Prop) (K : V → Heap → Prop) : round c_impl_ValidGrid ⟨[1,16,17],1,false⟩ (lb c_impl_ValidGrid 4 Try.f56) (fr_impl_ValidGrid_4 a b c d i j k xs (0 : Int)) (hp_impl_ValidGrid_4 a b c d i j k xs (0 : Int)) Kn (lk c_impl_ValidGrid 4 Try.f56 [] K) =
  cond (!inR i 1 16)
    (K (.bool false) [])
    (Kn [(1, (.ptr 0 0)), (16, (.agg [(.int .i64 (i)), (.int .i64 (j)), (.int .i64 (k))])), (17, (.int .i64 (IntKind.wrap IntKind.i64 (0 + 1))))] [(.box [(.float .f32 (a)), (.float .f32 (b)), (.float .f32 (c)), (.float .f32 (d)), (.int .i64 (i)), (.int .i64 (j)), (.int .i64 (k)), (.vec (.float .f32) (xs))])]) := by kernel_rfl
theorem r_impl_ValidGrid_4_1 (a b c d : Nat) (i j k : Int) (xs : List Nat) (Kn : Fr → Heap → Prop) (K : V → Heap → Prop) : round c_impl_ValidGrid ⟨[1,16,17],1,false⟩ (lb c_impl_ValidGrid 4 Try.f56) (fr_impl_ValidGrid_4 a b c d i j k xs (1 : Int)) (hp_impl_ValidGrid_4 a b c d i j k xs (1 : Int)) Kn (lk c_impl_ValidGrid 4 Try.f56 [] K) =
  cond (!inR j 1 16)
    (K (.bool false) [])
    (Kn [(1, (.ptr 0 0)), (16, (.agg [(.int .i64 (i)), (.int .i64 (j)), (.int .i64 (k))])), (17, (.int .i64 (IntKind.wrap IntKind.i64 (1 + 1))))] [(.box [(.float .f32 (a)), (.float .f32 (b)), (.float .f32 (c)), (.float .f32 (d)), (.int .i64 (i)), (.int .i64 (j)), (.int .i64 (k)), (.vec (.float .f32) (xs))])]) := by kernel_rfl
theorem r_impl_ValidGrid_4_2 (a b c d : Nat) (i j k : Int) (xs : List Nat) (Kn : Fr → Heap → Prop) (K : V → Heap → Prop) : round c_impl_ValidGrid ⟨[1,16,17],1,false⟩ (lb c_impl_ValidGrid 4 Try.f56) (fr_impl_ValidGrid_4 a b c d i j k xs (2 : Int)) (hp_impl_ValidGrid_4 a b c d i j k xs (2 : Int)) Kn (lk c_impl_ValidGrid 4 Try.f56 [] K) =
  cond (!inR k 1 16)
    (K (.bool false) [])
    (Kn [(1, (.ptr 0 0)), (16, (.agg [(.int .i64 (i)), (.int .i64 (j)), (.int .i64 (k))])), (17, (.int .i64 (IntKind.wrap IntKind.i64 (2 + 1))))] [(.box [(.float .f32 (a)), (.float .f32 (b)), (.float .f32 (c)), (.float .f32 (d)), (.int .i64 (i)), (.int .i64 (j)), (.int .i64 (k)), (.vec (.float .f32) (xs))])]) := by kernel_rfl
theorem r_impl_ValidGrid_4_3 (a b c d : Nat) (i j k : Int) (xs : List Nat) (Kn : Fr → Heap → Prop) (K : V → Heap → Prop) : round c_impl_ValidGrid ⟨[1,16,17],1,false⟩ (lb c_impl_ValidGrid 4 Try.f56) (fr_impl_ValidGrid_4 a b c d i j k xs (3 : Int)) (hp_impl_ValidGrid_4 a b c d i j k xs (3 : Int)) Kn (lk c_impl_ValidGrid 4 Try.f56 [] K) =
  cond (decide (IntKind.wrap IntKind.i64 (IntKind.wrap IntKind.i64 (i * j) * k) ≤ 1024))
    (K (.bool ((↑(List.length xs) : Int) == IntKind.wrap IntKind.i64 (IntKind.wrap IntKind.i64 (i * j) * k))) [])
    (K (.bool false) []) := by kernel_rfl
theorem w_impl_ValidGrid (a b c d : Nat) (i j k : Int) (xs : List Nat) (K : V → Heap → Prop) : wpFn c_impl_ValidGrid Try.f56 (encAs [.agg tG] (((a, b, c), d, i, j, k, xs), ())) [] K =
  cond (!finV (a, b, c))
    (K (.bool false) [])
    (cond (!(finN d && fgt FloatKind.f32 d 0))
      (K (.bool false) [])
      (LoopE c_impl_ValidGrid ⟨[1, 16, 17], 1, false⟩ (lb c_impl_ValidGrid 4 Try.f56) [(1, (.ptr 0 0)), (16, (.agg [(.int .i64 (i)), (.int .i64 (j)), (.int .i64 (k))])), (17, (.int .i64 0))] [(.box [(.float .f32 (a)), (.float .f32 (b)), (.float .f32 (c)), (.float .f32 (d)), (.int .i64 (i)), (.int .i64 (j)), (.int .i64 (k)), (.vec (.float .f32) (xs))])] (lk c_impl_ValidGrid 4 Try.f56 [] K))) := by kernel_rfl
noncomputable def s_impl_ValidGrid : Sm := semT [.agg tG] fun x => match x with | (((a, b, c), d, i, j, k, xs), _) => .bool (okG (a, b, c) d i j k xs.length)
theorem ok_impl_ValidGrid : FnOk Try.prog 56 s_impl_ValidGrid := fnOk_typed (fnOk_runC (C := c_impl_ValidGrid) rfl mixed (.cons ok_impl_finiteVector (.cons ok_impl_stepOk (.cons ok_impl_Grid_counts (.cons ok_impl_in .nil)))) .nil .nil Try.func56 (by kernel_rfl)) fun (x : ((((Nat) × (Nat) × (Nat)) × (Nat) × (Int) × (Int) × (Int) × (List Nat)) × Unit)) wf K h => by
  obtain ⟨⟨⟨a, b, c⟩, d, i, j, k, xs⟩, ⟨⟩⟩ := x
  replace h : K (.bool (okG (a, b, c) d i j k xs.length)) [] := h
  rw [w_impl_ValidGrid a b c d i j k xs K]
  unfold okG at h
  have hN : ∀ (u v : Int), IntKind.i64.wrap (IntKind.i64.wrap (u * v) * k) = mulG u v k := fun _ _ => rfl
  cases e1 : finV (a, b, c) with
  | false => simp only [e1, Bool.false_and] at h ⊢; exact h
  | true =>
  cases e2 : (finN d && fgt .f32 d 0) with
  | false =>
    rw [← Bool.and_assoc (finN d), e2] at h
    simp only [e1, e2, Bool.and_false, Bool.false_and] at h ⊢
    exact h
  | true =>
  rw [← Bool.and_assoc (finN d), e2, e1, Bool.true_and, Bool.true_and] at h
  simp only [Bool.not_true, cond_false]
  refine loop_run (σ := Nat) (fun n => fr_impl_ValidGrid_4 a b c d i j k xs n) (fun n => hp_impl_ValidGrid_4 a b c d i j k xs n) (fun n => n ≤ 3 ∧ (1 ≤ n → inR i 1 16 = true) ∧ (2 ≤ n → inR j 1 16 = true) ∧ (3 ≤ n → inR k 1 16 = true)) (fun n => 3 - n) ?_ 0 ⟨by omega, by omega, by omega, by omega⟩
  rintro n ⟨hn, h1, h2, h3⟩ Kn hk
  rcases (by omega : n = 0 ∨ n = 1 ∨ n = 2 ∨ n = 3) with rfl | rfl | rfl | rfl
  · refine (r_impl_ValidGrid_4_0 a b c d i j k xs Kn K).mpr ?_
    cases e : inR i 1 16 with
    | false => simp only [e, Bool.false_and] at h; exact h
    | true => exact hk 1 ⟨by omega, fun _ => e, by omega, by omega⟩ (by omega)
  · refine (r_impl_ValidGrid_4_1 a b c d i j k xs Kn K).mpr ?_
    cases e : inR j 1 16 with
    | false => simp only [e, h1 (by omega), Bool.false_and, Bool.and_false] at h; exact h
    | true => exact hk 2 ⟨by omega, fun _ => h1 (by omega), fun _ => e, by omega⟩ (by omega)
  · refine (r_impl_ValidGrid_4_2 a b c d i j k xs Kn K).mpr ?_
    cases e : inR k 1 16 with
    | false => simp only [e, h1 (by omega), h2 (by omega), Bool.false_and, Bool.and_false] at h; exact h
    | true => exact hk 3 ⟨by omega, fun _ => h1 (by omega), fun _ => h2 (by omega), fun _ => e⟩ (by omega)
  · refine (r_impl_ValidGrid_4_3 a b c d i j k xs Kn K).mpr ?_
    rw [h1 (by omega), h2 (by omega), h3 (by omega)] at h
    simp only [Bool.true_and] at h
    rw [hN]
    revert h
    cases decide (mulG i j k ≤ 1024) <;> exact id

/-! spec.l02Lesser -/
noncomputable def c_spec_l02Lesser : Ctx := mkC Try.prog tyT [] [] [] 10 (fun _ => none) 0
theorem w_spec_l02Lesser (x y : Nat) (K : V → Heap → Prop) : wpFn c_spec_l02Lesser Try.f101 (encAs [.cell tF, .cell tF] (x, y, ())) [] K =
  cond (flt FloatKind.f32 y x)
    (K (.float .f32 (y)) [])
    (K (.float .f32 (x)) []) := by kernel_rfl
noncomputable def s_spec_l02Lesser : Sm := semT [.cell tF, .cell tF] fun x => match x with | (x, y, _) => .float .f32 (bif flt .f32 y x then y else x)
theorem ok_spec_l02Lesser : FnOk Try.prog 101 s_spec_l02Lesser := fnOk_typed (fnOk_runC (C := c_spec_l02Lesser) rfl mixed .nil .nil .nil Try.func101 (by kernel_rfl)) fun (x : ((Nat) × (Nat) × Unit)) wf K h => by
  obtain ⟨x, y, ⟨⟩⟩ := x
  replace h : K (.float .f32 (bif flt .f32 y x then y else x)) [] := h
  rw [w_spec_l02Lesser x y K]
  revert h
  cases flt .f32 y x <;> exact id

/-! spec.l02Greater -/
noncomputable def c_spec_l02Greater : Ctx := mkC Try.prog tyT [] [] [] 10 (fun _ => none) 0
theorem w_spec_l02Greater (x y : Nat) (K : V → Heap → Prop) : wpFn c_spec_l02Greater Try.f102 (encAs [.cell tF, .cell tF] (x, y, ())) [] K =
  cond (fgt FloatKind.f32 y x)
    (K (.float .f32 (y)) [])
    (K (.float .f32 (x)) []) := by kernel_rfl
noncomputable def s_spec_l02Greater : Sm := semT [.cell tF, .cell tF] fun x => match x with | (x, y, _) => .float .f32 (bif fgt .f32 y x then y else x)
theorem ok_spec_l02Greater : FnOk Try.prog 102 s_spec_l02Greater := fnOk_typed (fnOk_runC (C := c_spec_l02Greater) rfl mixed .nil .nil .nil Try.func102 (by kernel_rfl)) fun (x : ((Nat) × (Nat) × Unit)) wf K h => by
  obtain ⟨x, y, ⟨⟩⟩ := x
  replace h : K (.float .f32 (bif fgt .f32 y x then y else x)) [] := h
  rw [w_spec_l02Greater x y K]
  revert h
  cases fgt .f32 y x <;> exact id

/-! impl.lesser -/
noncomputable def c_impl_lesser : Ctx := mkC Try.prog tyT [] [] [] 10 (fun _ => none) 0
theorem w_impl_lesser (x y : Nat) (K : V → Heap → Prop) : wpFn c_impl_lesser Try.f108 (encAs [.cell tF, .cell tF] (x, y, ())) [] K =
  cond (flt FloatKind.f32 y x)
    (K (.float .f32 (y)) [])
    (K (.float .f32 (x)) []) := by kernel_rfl
noncomputable def s_impl_lesser : Sm := semT [.cell tF, .cell tF] fun x => match x with | (x, y, _) => .float .f32 (bif flt .f32 y x then y else x)
theorem ok_impl_lesser : FnOk Try.prog 108 s_impl_lesser := fnOk_typed (fnOk_runC (C := c_impl_lesser) rfl mixed .nil .nil .nil Try.func108 (by kernel_rfl)) fun (x : ((Nat) × (Nat) × Unit)) wf K h => by
  obtain ⟨x, y, ⟨⟩⟩ := x
  replace h : K (.float .f32 (bif flt .f32 y x then y else x)) [] := h
  rw [w_impl_lesser x y K]
  revert h
  cases flt .f32 y x <;> exact id

/-! impl.greater -/
noncomputable def c_impl_greater : Ctx := mkC Try.prog tyT [] [] [] 10 (fun _ => none) 0
theorem w_impl_greater (x y : Nat) (K : V → Heap → Prop) : wpFn c_impl_greater Try.f109 (encAs [.cell tF, .cell tF] (x, y, ())) [] K =
  cond (fgt FloatKind.f32 y x)
    (K (.float .f32 (y)) [])
    (K (.float .f32 (x)) []) := by kernel_rfl
noncomputable def s_impl_greater : Sm := semT [.cell tF, .cell tF] fun x => match x with | (x, y, _) => .float .f32 (bif fgt .f32 y x then y else x)
theorem ok_impl_greater : FnOk Try.prog 109 s_impl_greater := fnOk_typed (fnOk_runC (C := c_impl_greater) rfl mixed .nil .nil .nil Try.func109 (by kernel_rfl)) fun (x : ((Nat) × (Nat) × Unit)) wf K h => by
  obtain ⟨x, y, ⟨⟩⟩ := x
  replace h : K (.float .f32 (bif fgt .f32 y x then y else x)) [] := h
  rw [w_impl_greater x y K]
  revert h
  cases fgt .f32 y x <;> exact id

/-! spec.l02Size -/
noncomputable def c_spec_l02Size : Ctx := mkC Try.prog tyT [] [] [] 8 (fun _ => none) 0
theorem w_spec_l02Size (x : Nat) (K : V → Heap → Prop) : wpFn c_spec_l02Size Try.f103 (encAs [.cell tF] (x, ())) [] K =
  cond (fle FloatKind.f32 x 0)
    (K (.float .f32 (fsub FloatKind.f32 0 x)) [])
    (K (.float .f32 (x)) []) := by kernel_rfl
noncomputable def s_spec_l02Size : Sm := semT [.cell tF] fun x => match x with | (x, _) => .float .f32 (bif fle .f32 x 0 then fsub .f32 0 x else x)
theorem ok_spec_l02Size : FnOk Try.prog 103 s_spec_l02Size := fnOk_typed (fnOk_runC (C := c_spec_l02Size) rfl mixed .nil .nil .nil Try.func103 (by kernel_rfl)) fun (x : ((Nat) × Unit)) wf K h => by
  obtain ⟨x, ⟨⟩⟩ := x
  replace h : K (.float .f32 (bif fle .f32 x 0 then fsub .f32 0 x else x)) [] := h
  rw [w_spec_l02Size x K]
  revert h
  cases fle .f32 x 0 <;> exact id

/-! impl.sizeOf -/
noncomputable def c_impl_sizeOf : Ctx := mkC Try.prog tyT [] [] [] 8 (fun _ => none) 0
theorem w_impl_sizeOf (x : Nat) (K : V → Heap → Prop) : wpFn c_impl_sizeOf Try.f110 (encAs [.cell tF] (x, ())) [] K =
  cond (flt FloatKind.f32 x 0)
    (K (.float .f32 (fneg FloatKind.f32 x)) [])
    (K (.float .f32 (x)) []) := by kernel_rfl
noncomputable def s_impl_sizeOf : Sm := semT [.cell tF] fun x => match x with | (x, _) => .float .f32 (bif flt .f32 x 0 then fneg .f32 x else x)
theorem ok_impl_sizeOf : FnOk Try.prog 110 s_impl_sizeOf := fnOk_typed (fnOk_runC (C := c_impl_sizeOf) rfl mixed .nil .nil .nil Try.func110 (by kernel_rfl)) fun (x : ((Nat) × Unit)) wf K h => by
  obtain ⟨x, ⟨⟩⟩ := x
  replace h : K (.float .f32 (bif flt .f32 x 0 then fneg .f32 x else x)) [] := h
  rw [w_impl_sizeOf x K]
  revert h
  cases flt .f32 x 0 <;> exact id

/-! impl.bulge -/
noncomputable def c_impl_bulge : Ctx := mkC Try.prog tyT [] [] [] 13 (fun _ => none) 0
theorem w_impl_bulge (h1 k : Nat) (K : V → Heap → Prop) : wpFn c_impl_bulge Try.f111 (encAs [.cell tF, .cell tF] (h1, k, ())) [] K =
  cond (fgt FloatKind.f32 h1 0)
    (K (.float .f32 (fdiv FloatKind.f32 (fmul FloatKind.f32 h1 h1) (fmul FloatKind.f32 1082130432 k))) [])
    (K (.float .f32 0) []) := by kernel_rfl
noncomputable def s_impl_bulge : Sm := semT [.cell tF, .cell tF] fun x => match x with | (h1, k, _) => .float .f32 (bif fgt .f32 h1 0 then fdiv .f32 (fmul .f32 h1 h1) (fmul .f32 1082130432 k) else 0)
theorem ok_impl_bulge : FnOk Try.prog 111 s_impl_bulge := fnOk_typed (fnOk_runC (C := c_impl_bulge) rfl mixed .nil .nil .nil Try.func111 (by kernel_rfl)) fun (x : ((Nat) × (Nat) × Unit)) wf K h => by
  obtain ⟨h1, k, ⟨⟩⟩ := x
  replace h : K (.float .f32 (bif fgt .f32 h1 0 then fdiv .f32 (fmul .f32 h1 h1) (fmul .f32 1082130432 k) else 0)) [] := h
  rw [w_impl_bulge h1 k K]
  revert h
  cases fgt .f32 h1 0 <;> exact id

/-! spec.l02Mixed -/
noncomputable def c_spec_l02Mixed : Ctx := mkC Try.prog tyT [(101, s_spec_l02Lesser), (102, s_spec_l02Greater), (103, s_spec_l02Size)] [] [] 90 (fun _ => none) 0
theorem w_spec_l02Mixed (k p q : Int) (xs : List Nat) (u v : Nat) (K : V → Heap → Prop) : wpFn c_spec_l02Mixed Try.f53 (encAs [.ref tN, .cell tF, .cell tF] ((k, p, q, xs), u, v, ())) [] K =
  cond (k == 5)
    (K (.float .f32 (bif flt FloatKind.f32 v u then v else u)) [])
    (cond (k == 6)
      (K (.float .f32 (bif fgt FloatKind.f32 v u then v else u)) [])
      (cond (k == 7)
        (K (.float .f32 (bif fgt FloatKind.f32 (fneg FloatKind.f32 v) u then fneg FloatKind.f32 v else u)) [])
        (cond (k == 8)
          ((match xs[0]? with
            | some y0 => cond (fgt FloatKind.f32 (fsub FloatKind.f32 y0 (bif fle FloatKind.f32 (fsub FloatKind.f32 u v) 0 then fsub FloatKind.f32 0 (fsub FloatKind.f32 u v) else fsub FloatKind.f32 u v)) 0)
              (K (.float .f32 (fsub FloatKind.f32 (bif flt FloatKind.f32 v u then v else u) (fdiv FloatKind.f32 (fmul FloatKind.f32 (fsub FloatKind.f32 y0 (bif fle FloatKind.f32 (fsub FloatKind.f32 u v) 0 then fsub FloatKind.f32 0 (fsub FloatKind.f32 u v) else fsub FloatKind.f32 u v)) (fsub FloatKind.f32 y0 (bif fle FloatKind.f32 (fsub FloatKind.f32 u v) 0 then fsub FloatKind.f32 0 (fsub FloatKind.f32 u v) else fsub FloatKind.f32 u v))) (fmul FloatKind.f32 1082130432 y0)))) [])
              (K (.float .f32 (bif flt FloatKind.f32 v u then v else u)) [])
            | none => False))
          (cond (k == 10)
            ((match xs[0]? with
              | some y1 => K (.float .f32 (fmul FloatKind.f32 u y1)) []
              | none => False))
            (cond (k == 15)
              ((match xs[0]? with
                | some y2 => K (.float .f32 (fsub FloatKind.f32 u y2)) []
                | none => False))
              (cond (k == 16)
                ((match xs[0]? with
                  | some y3 => K (.float .f32 (fsub FloatKind.f32 (bif fle FloatKind.f32 u 0 then fsub FloatKind.f32 0 u else u) y3)) []
                  | none => False))
                (K (.float .f32 (u)) []))))))) := by kernel_rfl
noncomputable def s_spec_l02Mixed : Sm := semG [.ref tN, .cell tF, .cell tF] (fun x => match x with | ((k, p, q, xs), u, v, _) => inR k 5 7) fun x => match x with | ((k, p, q, xs), u, v, _) => .float .f32 (mixJ k u v)
theorem ok_spec_l02Mixed : FnOk Try.prog 53 s_spec_l02Mixed := fnOk_typedG (fnOk_runC (C := c_spec_l02Mixed) rfl mixed (.cons ok_spec_l02Lesser (.cons ok_spec_l02Greater (.cons ok_spec_l02Size .nil))) .nil .nil Try.func53 (by kernel_rfl)) fun (x : (((Int) × (Int) × (Int) × (List Nat)) × (Nat) × (Nat) × Unit)) wf hg K h => by
  obtain ⟨⟨k, p, q, xs⟩, u, v, ⟨⟩⟩ := x
  replace hg : (inR k 5 7) = true := hg
  replace h : K (.float .f32 (mixJ k u v)) [] := h
  rw [w_spec_l02Mixed k p q xs u v K]
  have := inR_iff.1 hg
  rcases (by omega : k = 5 ∨ k = 6 ∨ k = 7) with rfl | rfl | rfl <;> exact h

/-! (*impl.Node).mix -/
noncomputable def c_impl_Node_mix : Ctx := mkC Try.prog tyT [(108, s_impl_lesser), (109, s_impl_greater), (110, s_impl_sizeOf), (111, s_impl_bulge)] [] [] 90 (fun _ => none) 0
theorem w_impl_Node_mix (k p q : Int) (xs : List Nat) (u v : Nat) (K : V → Heap → Prop) : wpFn c_impl_Node_mix Try.f60 (encAs [.ref tN, .cell tF, .cell tF] ((k, p, q, xs), u, v, ())) [] K =
  cond (k == 5)
    (K (.float .f32 (bif flt FloatKind.f32 v u then v else u)) [])
    (cond (k == 6)
      (K (.float .f32 (bif fgt FloatKind.f32 v u then v else u)) [])
      (cond (k == 7)
        (K (.float .f32 (bif fgt FloatKind.f32 (fneg FloatKind.f32 v) u then fneg FloatKind.f32 v else u)) [])
        (cond (k == 8)
          ((match xs[0]? with
            | some y0 => cond (fgt FloatKind.f32 (fsub FloatKind.f32 y0 (bif flt FloatKind.f32 (fsub FloatKind.f32 u v) 0 then fneg FloatKind.f32 (fsub FloatKind.f32 u v) else fsub FloatKind.f32 u v)) 0)
              ((match xs[0]? with
                | some y1 => K (.float .f32 (fsub FloatKind.f32 (bif flt FloatKind.f32 v u then v else u) (bif fgt FloatKind.f32 (fsub FloatKind.f32 y0 (bif flt FloatKind.f32 (fsub FloatKind.f32 u v) 0 then fneg FloatKind.f32 (fsub FloatKind.f32 u v) else fsub FloatKind.f32 u v)) 0 then fdiv FloatKind.f32 (fmul FloatKind.f32 (fsub FloatKind.f32 y0 (bif flt FloatKind.f32 (fsub FloatKind.f32 u v) 0 then fneg FloatKind.f32 (fsub FloatKind.f32 u v) else fsub FloatKind.f32 u v)) (fsub FloatKind.f32 y0 (bif flt FloatKind.f32 (fsub FloatKind.f32 u v) 0 then fneg FloatKind.f32 (fsub FloatKind.f32 u v) else fsub FloatKind.f32 u v))) (fmul FloatKind.f32 1082130432 y1) else 0))) []
                | none => False))
              (K (.float .f32 (bif flt FloatKind.f32 v u then v else u)) [])
            | none => False))
          (cond (k == 10)
            ((match xs[0]? with
              | some y2 => K (.float .f32 (fmul FloatKind.f32 u y2)) []
              | none => False))
            (cond (k == 15)
              ((match xs[0]? with
                | some y3 => K (.float .f32 (fsub FloatKind.f32 u y3)) []
                | none => False))
              (cond (k == 16)
                ((match xs[0]? with
                  | some y4 => K (.float .f32 (fsub FloatKind.f32 (bif flt FloatKind.f32 u 0 then fneg FloatKind.f32 u else u) y4)) []
                  | none => False))
                (K (.float .f32 (u)) []))))))) := by kernel_rfl
noncomputable def s_impl_Node_mix : Sm := semG [.ref tN, .cell tF, .cell tF] (fun x => match x with | ((k, p, q, xs), u, v, _) => inR k 5 7) fun x => match x with | ((k, p, q, xs), u, v, _) => .float .f32 (mixJ k u v)
theorem ok_impl_Node_mix : FnOk Try.prog 60 s_impl_Node_mix := fnOk_typedG (fnOk_runC (C := c_impl_Node_mix) rfl mixed (.cons ok_impl_lesser (.cons ok_impl_greater (.cons ok_impl_sizeOf (.cons ok_impl_bulge .nil)))) .nil .nil Try.func60 (by kernel_rfl)) fun (x : (((Int) × (Int) × (Int) × (List Nat)) × (Nat) × (Nat) × Unit)) wf hg K h => by
  obtain ⟨⟨k, p, q, xs⟩, u, v, ⟨⟩⟩ := x
  replace hg : (inR k 5 7) = true := hg
  replace h : K (.float .f32 (mixJ k u v)) [] := h
  rw [w_impl_Node_mix k p q xs u v K]
  have := inR_iff.1 hg
  rcases (by omega : k = 5 ∨ k = 6 ∨ k = 7) with rfl | rfl | rfl <;> exact h

noncomputable def gp_slices_Clone__float32 : List (List (Option Ty)) := List.map giveR [.cell (.own (tF))]
noncomputable def c_slices_Clone__float32 : Ctx := mkC Try.prog tyT [] [] [] 8 (fun _ => none) 0
theorem w_slices_Clone__float32 (x : (tF).den) (xs : List (tF).den) (K : V → Heap → Prop) : wpFnG gp_slices_Clone__float32 c_slices_Clone__float32 Try.f59 [.vec (tF) (x :: xs)] [] K =
  cond (decide ((0 + List.length (x :: xs)) * 4 ≤ 140737488355328))
    (K (.obj 0 0) [(.sl 0 (.float .f32) ([] ++ x :: xs))])
    (False) := by kernel_rfl
theorem w2_slices_Clone__float32 (b : Bool) (K : V → Heap → Prop) : wpFnG gp_slices_Clone__float32 c_slices_Clone__float32 Try.f59 [.empty b] [] K =
  cond (b)
    (K (.obj 0 0) [(.sl 0 (.float .f32) ([]))])
    (K (.obj 0 0) [(.sl 0 (.float .f32) ([] ++ []))]) := by kernel_rfl
noncomputable def s_slices_Clone__float32 : Sm := semV [.cell (.slice (tF))] [.cell (.own (tF))] (fun x => decide (x.1.length ≤ 1048576)) fun x => (x.1, ())
theorem ok_slices_Clone__float32 : FnOkL Try.prog 59 s_slices_Clone__float32 := fnOkO_clone (fnOkO_runG (C := c_slices_Clone__float32) gp_slices_Clone__float32 rfl mixed .nil .nil .nil Try.func59 (by kernel_rfl)) 1048576
  (fun x xs K hl h => by
    rw [w_slices_Clone__float32 x xs K, d_t (by rw [List.length_cons]; omega)]
    exact h)
  (fun b K h => by
    rw [w2_slices_Clone__float32 b K]
    cases b <;> exact h)

end Go.Proofs.Ytobdbgdgingjjaa
