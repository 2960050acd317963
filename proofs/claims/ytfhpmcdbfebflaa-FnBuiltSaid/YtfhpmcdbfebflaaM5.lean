/- Merged texts: Dist Dis2 Dis3 Part Kept Jn Src ShP ShQ. -/
import Derived.Test.YtfhpmcdbfebflaaM4
/- Distances of shapes: walks. -/
set_option linter.unusedVariables false
set_option linter.unusedSimpArgs false
set_option maxRecDepth 100000
namespace Go.Proofs.Ytfhpmcdbfebflaa
open Go.Ev Go.Ev.Fl

def lsV (x y : Nat) : Nat := bif flt .f32 y x then y else x
def grV (x y : Nat) : Nat := bif fgt .f32 y x then y else x
def absV (x : Nat) : Nat := bif flt .f32 x 0 then fneg .f32 x else x
def shoV (y d : Nat) : Nat := fsub .f32 y (lsV (grV 0 y) d)
def bulV (x k : Nat) : Nat := bif fgt .f32 x 0 then fdiv .f32 (fmul .f32 x x) (fmul .f32 1082130432 k) else 0
def foldV (c s : Nat) : Nat := fmul .f32 (fmul .f32 1073741824 s) (rintV (fdiv .f32 c (fmul .f32 1073741824 s)))
def nt (xs : List Nat) (i : Nat) : Nat := (xs[i]?).getD 0
def boxN (xs : List Nat) (p : V3) : Nat :=
  fadd .f32 (longV (grV 0 (fsub .f32 (absV p.1) (nt xs 0)), grV 0 (fsub .f32 (absV p.2.1) (nt xs 1)), grV 0 (fsub .f32 (absV p.2.2) (nt xs 2))))
    (lsV 0 (grV (grV (fsub .f32 (absV p.1) (nt xs 0)) (fsub .f32 (absV p.2.1) (nt xs 1))) (fsub .f32 (absV p.2.2) (nt xs 2))))
def leafV (k : Int) (xs : List Nat) (p : V3) : Nat :=
  bif k == 0 then fsub .f32 (longV p) (nt xs 0) else
  bif k == 1 then boxN xs p else
  bif k == 2 then fsub .f32 (longV (p.1, shoV p.2.1 (nt xs 0), p.2.2)) (nt xs 1) else
  bif k == 3 then fsub .f32 (longV (fsub .f32 (longV (p.1, 0, p.2.2)) (nt xs 0), p.2.1, 0)) (nt xs 1) else
  fsub .f32 (innerV p (nt xs 0, nt xs 1, nt xs 2)) (nt xs 3)
def smoN (r x y : Nat) : Nat := bif fgt .f32 (fsub .f32 r (absV (fsub .f32 x y))) 0 then fsub .f32 (lsV x y) (bulV (fsub .f32 r (absV (fsub .f32 x y))) r) else lsV x y
def mixV (k : Int) (xs : List Nat) (x y : Nat) : Nat :=
  bif k == 5 then lsV x y else bif k == 6 then grV x y else bif k == 7 then grV x (fneg .f32 y) else bif k == 8 then smoN (nt xs 0) x y else
  bif k == 10 then fmul .f32 x (nt xs 0) else bif k == 15 then fsub .f32 x (nt xs 0) else bif k == 16 then fsub .f32 (absV x) (nt xs 0) else x
def c3 (p : V3) (i : Int) : Nat := bif i == 0 then p.1 else bif i == 1 then p.2.1 else p.2.2
def set3 (p : V3) (i : Int) (x : Nat) : V3 := bif i == 0 then (x, p.2.1, p.2.2) else bif i == 1 then (p.1, x, p.2.2) else (p.1, p.2.1, x)
def turnN (a : Int) (v : Nat) (p : V3) : V3 :=
  set3 (set3 p ((a + 1) % 3) (fadd .f32 (fmul .f32 (sineF (fsub .f32 1048576000 v)) (c3 p ((a + 1) % 3))) (fmul .f32 (sineF v) (c3 p ((a + 2) % 3)))))
    ((a + 2) % 3) (fsub .f32 (fmul .f32 (sineF (fsub .f32 1048576000 v)) (c3 p ((a + 2) % 3))) (fmul .f32 (sineF v) (c3 p ((a + 1) % 3))))
def pointN (k a : Int) (xs : List Nat) (p : V3) : V3 :=
  bif k == 9 then subV p (nt xs 0, nt xs 1, nt xs 2) else
  bif k == 10 then (fdiv .f32 p.1 (nt xs 0), fdiv .f32 p.2.1 (nt xs 0), fdiv .f32 p.2.2 (nt xs 0)) else
  bif k == 11 then (fdiv .f32 p.1 (nt xs 0), fdiv .f32 p.2.1 (nt xs 1), fdiv .f32 p.2.2 (nt xs 2)) else
  bif k == 12 then turnN a (nt xs 0) p else
  bif k == 13 then set3 p a (absV (c3 p a)) else
  bif k == 14 then set3 p a (absV (fsub .f32 (c3 p a) (foldV (c3 p a) (nt xs 0)))) else p
def turnB (k : Int) (xs : List Nat) : Bool := !(k == 12) || (sineOk (nt xs 0) && sineOk (fsub .f32 1048576000 (nt xs 0)))

noncomputable def c_impl_lesser : Ctx := mkC Try.prog tyT [] [] [] 10 (fun _ => none) 0
theorem w_impl_lesser (x y : Nat) (K : V → Heap → Prop) : wpFn c_impl_lesser Try.f111 (encAs [.cell tF, .cell tF] (x, y, ())) [] K =
 cond (flt FloatKind.f32 y x)
 (K (.float .f32 (y)) [])
 (K (.float .f32 (x)) []) := by kernel_rfl
noncomputable def s_impl_lesser : Sm := semT [.cell tF, .cell tF] fun x => match x with | (x, y, _) => .float .f32 (lsV x y)
theorem ok_impl_lesser : FnOk Try.prog 111 s_impl_lesser := fnOk_typed (fnOk_runC (C := c_impl_lesser) rfl mixed .nil .nil .nil Try.func111 (by kernel_rfl)) fun (x : ((Nat) × (Nat) × Unit)) wf K h => by
  obtain ⟨x, y, ⟨⟩⟩ := x
  replace h : K (.float .f32 (lsV x y)) [] := h
  rw [w_impl_lesser x y K]
  revert h
  unfold lsV
  cases flt .f32 y x <;> exact id

noncomputable def c_impl_greater : Ctx := mkC Try.prog tyT [] [] [] 10 (fun _ => none) 0
theorem w_impl_greater (x y : Nat) (K : V → Heap → Prop) : wpFn c_impl_greater Try.f164 (encAs [.cell tF, .cell tF] (x, y, ())) [] K =
 cond (fgt FloatKind.f32 y x)
 (K (.float .f32 (y)) [])
 (K (.float .f32 (x)) []) := by kernel_rfl
noncomputable def s_impl_greater : Sm := semT [.cell tF, .cell tF] fun x => match x with | (x, y, _) => .float .f32 (grV x y)
theorem ok_impl_greater : FnOk Try.prog 164 s_impl_greater := fnOk_typed (fnOk_runC (C := c_impl_greater) rfl mixed .nil .nil .nil Try.func164 (by kernel_rfl)) fun (x : ((Nat) × (Nat) × Unit)) wf K h => by
  obtain ⟨x, y, ⟨⟩⟩ := x
  replace h : K (.float .f32 (grV x y)) [] := h
  rw [w_impl_greater x y K]
  revert h
  unfold grV
  cases fgt .f32 y x <;> exact id

noncomputable def c_impl_sizeOf : Ctx := mkC Try.prog tyT [] [] [] 8 (fun _ => none) 0
theorem w_impl_sizeOf (x : Nat) (K : V → Heap → Prop) : wpFn c_impl_sizeOf Try.f118 (encAs [.cell tF] (x, ())) [] K =
 cond (flt FloatKind.f32 x 0)
 (K (.float .f32 (fneg FloatKind.f32 x)) [])
 (K (.float .f32 (x)) []) := by kernel_rfl
noncomputable def s_impl_sizeOf : Sm := semT [.cell tF] fun x => match x with | (x, _) => .float .f32 (absV x)
theorem ok_impl_sizeOf : FnOk Try.prog 118 s_impl_sizeOf := fnOk_typed (fnOk_runC (C := c_impl_sizeOf) rfl mixed .nil .nil .nil Try.func118 (by kernel_rfl)) fun (x : ((Nat) × Unit)) wf K h => by
  obtain ⟨x, ⟨⟩⟩ := x
  replace h : K (.float .f32 (absV x)) [] := h
  rw [w_impl_sizeOf x K]
  revert h
  unfold absV
  cases flt .f32 x 0 <;> exact id

noncomputable def c_impl_shortened : Ctx := mkC Try.prog tyT [(111, s_impl_lesser), (164, s_impl_greater)] [] [] 11 (fun _ => none) 0
theorem w_impl_shortened (y d : Nat) (K : V → Heap → Prop) : wpFn c_impl_shortened Try.f165 (encAs [.cell tF, .cell tF] (y, d, ())) [] K =
 K (.float .f32 (fsub FloatKind.f32 y (lsV (grV 0 y) d))) [] := by kernel_rfl
noncomputable def s_impl_shortened : Sm := semT [.cell tF, .cell tF] fun x => match x with | (y, d, _) => .float .f32 (shoV y d)
theorem ok_impl_shortened : FnOk Try.prog 165 s_impl_shortened := fnOk_typed (fnOk_runC (C := c_impl_shortened) rfl mixed (.cons ok_impl_lesser (.cons ok_impl_greater .nil)) .nil .nil Try.func165 (by kernel_rfl)) fun (x : ((Nat) × (Nat) × Unit)) wf K h => by
  obtain ⟨y, d, ⟨⟩⟩ := x
  replace h : K (.float .f32 (shoV y d)) [] := h
  rw [w_impl_shortened y d K]
  exact h

noncomputable def c_impl_bulge : Ctx := mkC Try.prog tyT [] [] [] 13 (fun _ => none) 0
theorem w_impl_bulge (x k : Nat) (K : V → Heap → Prop) : wpFn c_impl_bulge Try.f166 (encAs [.cell tF, .cell tF] (x, k, ())) [] K =
 cond (fgt FloatKind.f32 x 0)
 (K (.float .f32 (fdiv FloatKind.f32 (fmul FloatKind.f32 x x) (fmul FloatKind.f32 1082130432 k))) [])
 (K (.float .f32 0) []) := by kernel_rfl
noncomputable def s_impl_bulge : Sm := semT [.cell tF, .cell tF] fun x => match x with | (x, k, _) => .float .f32 (bulV x k)
theorem ok_impl_bulge : FnOk Try.prog 166 s_impl_bulge := fnOk_typed (fnOk_runC (C := c_impl_bulge) rfl mixed .nil .nil .nil Try.func166 (by kernel_rfl)) fun (x : ((Nat) × (Nat) × Unit)) wf K h => by
  obtain ⟨x, k, ⟨⟩⟩ := x
  replace h : K (.float .f32 (bulV x k)) [] := h
  rw [w_impl_bulge x k K]
  revert h
  unfold bulV
  cases fgt .f32 x 0 <;> exact id

noncomputable def c_impl_foldOf : Ctx := mkC Try.prog tyT [(163, s_impl_nearest)] [] [] 13 (fun _ => none) 0
theorem w_impl_foldOf (x s : Nat) (K : V → Heap → Prop) : wpFn c_impl_foldOf Try.f137 (encAs [.cell tF, .cell tF] (x, s, ())) [] K =
 K (.float .f32 (fmul FloatKind.f32 (fmul FloatKind.f32 1073741824 s) (rintV (fdiv FloatKind.f32 x (fmul FloatKind.f32 1073741824 s))))) [] := by kernel_rfl
noncomputable def s_impl_foldOf : Sm := semT [.cell tF, .cell tF] fun x => match x with | (x, s, _) => .float .f32 (foldV x s)
theorem ok_impl_foldOf : FnOk Try.prog 137 s_impl_foldOf := fnOk_typed (fnOk_runC (C := c_impl_foldOf) rfl mixed (.cons ok_impl_nearest .nil) .nil .nil Try.func137 (by kernel_rfl)) fun (x : ((Nat) × (Nat) × Unit)) wf K h => by
  obtain ⟨x, s, ⟨⟩⟩ := x
  replace h : K (.float .f32 (foldV x s)) [] := h
  rw [w_impl_foldOf x s K]
  exact h

noncomputable def c_impl_coordinates : Ctx := mkC Try.prog tyT [] [] [] 10 (fun _ => none) 0
theorem w_impl_coordinates (u v w : Nat) (K : V → Heap → Prop) : wpFn c_impl_coordinates Try.f135 (encAs [.agg tV] ((u, v, w), ())) [] K =
 K (.agg [(.float .f32 (u)), (.float .f32 (v)), (.float .f32 (w))]) [] := by kernel_rfl
noncomputable def s_impl_coordinates : Sm := semT [.agg tV] fun x => match x with | ((u, v, w), _) => .agg [.float .f32 u, .float .f32 v, .float .f32 w]
theorem ok_impl_coordinates : FnOk Try.prog 135 s_impl_coordinates := fnOk_typed (fnOk_runC (C := c_impl_coordinates) rfl mixed .nil .nil .nil Try.func135 (by kernel_rfl)) fun (x : (((Nat) × (Nat) × (Nat)) × Unit)) wf K h => by
  obtain ⟨⟨u, v, w⟩, ⟨⟩⟩ := x
  replace h : K (.agg [.float .f32 u, .float .f32 v, .float .f32 w]) [] := h
  rw [w_impl_coordinates u v w K]
  exact h

noncomputable def c_impl_vectorOf : Ctx := mkC Try.prog tyT [] [] [] 10 (fun _ => none) 0
theorem w_impl_vectorOf (u v w : Nat) (K : V → Heap → Prop) : wpFn c_impl_vectorOf Try.f138 (encAs [.agg tV] ((u, v, w), ())) [] K =
 K (.agg [(.float .f32 (u)), (.float .f32 (v)), (.float .f32 (w))]) [] := by kernel_rfl
noncomputable def s_impl_vectorOf : Sm := semT [.agg tV] fun x => match x with | ((u, v, w), _) => .agg [.float .f32 u, .float .f32 v, .float .f32 w]
theorem ok_impl_vectorOf : FnOk Try.prog 138 s_impl_vectorOf := fnOk_typed (fnOk_runC (C := c_impl_vectorOf) rfl mixed .nil .nil .nil Try.func138 (by kernel_rfl)) fun (x : (((Nat) × (Nat) × (Nat)) × Unit)) wf K h => by
  obtain ⟨⟨u, v, w⟩, ⟨⟩⟩ := x
  replace h : K (.agg [.float .f32 u, .float .f32 v, .float .f32 w]) [] := h
  rw [w_impl_vectorOf u v w K]
  exact h

theorem nums_len {k : Int} {xs : List Nat} (h : numsB k xs = true) : (xs.length : Int) = kindN k := by
  unfold numsB at h
  simp only [Bool.and_eq_true, beq_iff_eq] at h
  exact h.2.1
theorem nums_isK {k : Int} {xs : List Nat} (h : numsB k xs = true) : isK k = true := by
  unfold numsB at h
  simp only [Bool.and_eq_true] at h
  exact h.1
theorem list1 {xs : List Nat} (h : (xs.length : Int) = 1) : ∃ x, xs = [x] := List.length_eq_one_iff.1 (by omega)
theorem list2 {xs : List Nat} (h : (xs.length : Int) = 2) : ∃ x y, xs = [x, y] := by
  match xs, h with
  | [x, y], _ => exact ⟨x, y, rfl⟩
  | [], h => simp at h
  | [_], h => simp at h
  | _ :: _ :: _ :: _, h => simp only [List.length_cons] at h; omega
theorem list3 {xs : List Nat} (h : (xs.length : Int) = 3) : ∃ x y z, xs = [x, y, z] := by
  match xs, h with
  | [x, y, z], _ => exact ⟨x, y, z, rfl⟩
  | [], h => simp at h
  | [_], h => simp at h
  | [_, _], h => simp at h
  | _ :: _ :: _ :: _ :: _, h => simp only [List.length_cons] at h; omega
theorem list4 {xs : List Nat} (h : (xs.length : Int) = 4) : ∃ x y z w, xs = [x, y, z, w] := by
  match xs, h with
  | [x, y, z, w], _ => exact ⟨x, y, z, w, rfl⟩
  | [], h => simp at h
  | [_], h => simp at h
  | [_, _], h => simp at h
  | [_, _, _], h => simp at h
  | _ :: _ :: _ :: _ :: _ :: _, h => simp only [List.length_cons] at h; omega

noncomputable def c_impl_Node_leaf : Ctx := mkC Try.prog tyT [(61, s_impl_LongOf), (118, s_impl_sizeOf), (164, s_impl_greater), (111, s_impl_lesser), (165, s_impl_shortened), (123, s_impl_InnerOf)] [] [] 117 (fun _ => none) 0
theorem w_impl_Node_leaf_0 (a c : Int) (xs : List Nat) (p : V3) (K : V → Heap → Prop) : wpFn c_impl_Node_leaf Try.f139 (encAs [.ref tN, .agg tV] ((0, a, c, xs), p, ())) [] K =
  (match xs[0]? with
    | some y0 => K (.float .f32 (fsub FloatKind.f32 (longV p) y0)) []
    | none => False) := by kernel_rfl
theorem w_impl_Node_leaf_1 (a c : Int) (xs : List Nat) (p : V3) (K : V → Heap → Prop) : wpFn c_impl_Node_leaf Try.f139 (encAs [.ref tN, .agg tV] ((1, a, c, xs), p, ())) [] K =
  (match xs[0]? with
    | some y0 => (match xs[1]? with
      | some y1 => (match xs[2]? with
        | some y2 => K (.float .f32 (fadd FloatKind.f32 (longV (grV 0 (fsub FloatKind.f32 (absV (Prod.fst p)) y0), grV 0 (fsub FloatKind.f32 (absV (Prod.fst (Prod.snd p))) y1), grV 0 (fsub FloatKind.f32 (absV (Prod.snd (Prod.snd p))) y2))) (lsV 0 (grV (grV (fsub FloatKind.f32 (absV (Prod.fst p)) y0) (fsub FloatKind.f32 (absV (Prod.fst (Prod.snd p))) y1)) (fsub FloatKind.f32 (absV (Prod.snd (Prod.snd p))) y2))))) []
        | none => False)
      | none => False)
    | none => False) := by kernel_rfl
theorem w_impl_Node_leaf_2 (a c : Int) (xs : List Nat) (p : V3) (K : V → Heap → Prop) : wpFn c_impl_Node_leaf Try.f139 (encAs [.ref tN, .agg tV] ((2, a, c, xs), p, ())) [] K =
  (match xs[0]? with
    | some y0 => (match xs[1]? with
      | some y1 => K (.float .f32 (fsub FloatKind.f32 (longV (Prod.fst p, shoV (Prod.fst (Prod.snd p)) y0, Prod.snd (Prod.snd p))) y1)) []
      | none => False)
    | none => False) := by kernel_rfl
theorem w_impl_Node_leaf_3 (a c : Int) (xs : List Nat) (p : V3) (K : V → Heap → Prop) : wpFn c_impl_Node_leaf Try.f139 (encAs [.ref tN, .agg tV] ((3, a, c, xs), p, ())) [] K =
  (match xs[0]? with
    | some y0 => (match xs[1]? with
      | some y1 => K (.float .f32 (fsub FloatKind.f32 (longV (fsub FloatKind.f32 (longV (Prod.fst p, 0, Prod.snd (Prod.snd p))) y0, Prod.fst (Prod.snd p), 0)) y1)) []
      | none => False)
    | none => False) := by kernel_rfl
theorem w_impl_Node_leaf_4 (a c : Int) (xs : List Nat) (p : V3) (K : V → Heap → Prop) : wpFn c_impl_Node_leaf Try.f139 (encAs [.ref tN, .agg tV] ((4, a, c, xs), p, ())) [] K =
  (match xs[0]? with
    | some y0 => (match xs[1]? with
      | some y1 => (match xs[2]? with
        | some y2 => (match xs[3]? with
          | some y3 => K (.float .f32 (fsub FloatKind.f32 (innerV p (y0, y1, y2)) y3)) []
          | none => False)
        | none => False)
      | none => False)
    | none => False) := by kernel_rfl
noncomputable def s_impl_Node_leaf : Sm := semG [.ref tN, .agg tV] (fun x => match x with | ((k, a, c, xs), p, _) => numsB k xs && inR k 0 4) fun x => match x with | ((k, a, c, xs), p, _) => .float .f32 (leafV k xs p)
theorem ok_impl_Node_leaf : FnOk Try.prog 139 s_impl_Node_leaf := fnOk_typedG (fnOk_runC (C := c_impl_Node_leaf) rfl mixed (.cons ok_impl_LongOf (.cons ok_impl_sizeOf (.cons ok_impl_greater (.cons ok_impl_lesser (.cons ok_impl_shortened (.cons ok_impl_InnerOf .nil)))))) .nil .nil Try.func139 (by kernel_rfl)) fun (x : (((Int) × (Int) × (Int) × (List Nat)) × (V3) × Unit)) wf hg K h => by
  obtain ⟨⟨k, a, c, xs⟩, p, ⟨⟩⟩ := x
  replace hg : (numsB k xs && inR k 0 4) = true := hg
  replace h : K (.float .f32 (leafV k xs p)) [] := h
  simp only [Bool.and_eq_true] at hg
  obtain ⟨h1, h2⟩ := hg
  have hl := nums_len h1
  have h2 := inR_iff.1 h2
  rcases (by omega : k = 0 ∨ k = 1 ∨ k = 2 ∨ k = 3 ∨ k = 4) with rfl | rfl | rfl | rfl | rfl
  · obtain ⟨x, rfl⟩ := list1 hl
    rw [w_impl_Node_leaf_0 a c _ p K]; exact Eq.mp (by kernel_rfl) h
  · obtain ⟨x, y, z, rfl⟩ := list3 hl
    rw [w_impl_Node_leaf_1 a c _ p K]; exact Eq.mp (by kernel_rfl) h
  · obtain ⟨x, y, rfl⟩ := list2 hl
    rw [w_impl_Node_leaf_2 a c _ p K]; exact Eq.mp (by kernel_rfl) h
  · obtain ⟨x, y, rfl⟩ := list2 hl
    rw [w_impl_Node_leaf_3 a c _ p K]; exact Eq.mp (by kernel_rfl) h
  · obtain ⟨x, y, z, w, rfl⟩ := list4 hl
    rw [w_impl_Node_leaf_4 a c _ p K]; exact Eq.mp (by kernel_rfl) h

noncomputable def c_impl_Node_mix : Ctx := mkC Try.prog tyT [(111, s_impl_lesser), (164, s_impl_greater), (118, s_impl_sizeOf), (166, s_impl_bulge)] [] [] 90 (fun _ => none) 0
theorem w_impl_Node_mix_5 (a c : Int) (xs : List Nat) (u v : Nat) (K : V → Heap → Prop) : wpFn c_impl_Node_mix Try.f140 (encAs [.ref tN, .cell tF, .cell tF] ((5, a, c, xs), u, v, ())) [] K =
 K (.float .f32 (lsV u v)) [] := by kernel_rfl
theorem w_impl_Node_mix_6 (a c : Int) (xs : List Nat) (u v : Nat) (K : V → Heap → Prop) : wpFn c_impl_Node_mix Try.f140 (encAs [.ref tN, .cell tF, .cell tF] ((6, a, c, xs), u, v, ())) [] K =
 K (.float .f32 (grV u v)) [] := by kernel_rfl
theorem w_impl_Node_mix_7 (a c : Int) (xs : List Nat) (u v : Nat) (K : V → Heap → Prop) : wpFn c_impl_Node_mix Try.f140 (encAs [.ref tN, .cell tF, .cell tF] ((7, a, c, xs), u, v, ())) [] K =
 K (.float .f32 (grV u (fneg FloatKind.f32 v))) [] := by kernel_rfl
theorem w_impl_Node_mix_8 (a c : Int) (xs : List Nat) (u v : Nat) (K : V → Heap → Prop) : wpFn c_impl_Node_mix Try.f140 (encAs [.ref tN, .cell tF, .cell tF] ((8, a, c, xs), u, v, ())) [] K =
  (match xs[0]? with
    | some y0 => cond (fgt FloatKind.f32 (fsub FloatKind.f32 y0 (absV (fsub FloatKind.f32 u v))) 0)
      ((match xs[0]? with
        | some y1 => K (.float .f32 (fsub FloatKind.f32 (lsV u v) (bulV (fsub FloatKind.f32 y0 (absV (fsub FloatKind.f32 u v))) y1))) []
        | none => False))
      (K (.float .f32 (lsV u v)) [])
    | none => False) := by kernel_rfl
theorem w_impl_Node_mix_9 (a c : Int) (xs : List Nat) (u v : Nat) (K : V → Heap → Prop) : wpFn c_impl_Node_mix Try.f140 (encAs [.ref tN, .cell tF, .cell tF] ((9, a, c, xs), u, v, ())) [] K =
 K (.float .f32 (u)) [] := by kernel_rfl
theorem w_impl_Node_mix_10 (a c : Int) (xs : List Nat) (u v : Nat) (K : V → Heap → Prop) : wpFn c_impl_Node_mix Try.f140 (encAs [.ref tN, .cell tF, .cell tF] ((10, a, c, xs), u, v, ())) [] K =
  (match xs[0]? with
    | some y0 => K (.float .f32 (fmul FloatKind.f32 u y0)) []
    | none => False) := by kernel_rfl
theorem w_impl_Node_mix_11 (a c : Int) (xs : List Nat) (u v : Nat) (K : V → Heap → Prop) : wpFn c_impl_Node_mix Try.f140 (encAs [.ref tN, .cell tF, .cell tF] ((11, a, c, xs), u, v, ())) [] K =
 K (.float .f32 (u)) [] := by kernel_rfl
theorem w_impl_Node_mix_12 (a c : Int) (xs : List Nat) (u v : Nat) (K : V → Heap → Prop) : wpFn c_impl_Node_mix Try.f140 (encAs [.ref tN, .cell tF, .cell tF] ((12, a, c, xs), u, v, ())) [] K =
 K (.float .f32 (u)) [] := by kernel_rfl
theorem w_impl_Node_mix_13 (a c : Int) (xs : List Nat) (u v : Nat) (K : V → Heap → Prop) : wpFn c_impl_Node_mix Try.f140 (encAs [.ref tN, .cell tF, .cell tF] ((13, a, c, xs), u, v, ())) [] K =
 K (.float .f32 (u)) [] := by kernel_rfl
theorem w_impl_Node_mix_14 (a c : Int) (xs : List Nat) (u v : Nat) (K : V → Heap → Prop) : wpFn c_impl_Node_mix Try.f140 (encAs [.ref tN, .cell tF, .cell tF] ((14, a, c, xs), u, v, ())) [] K =
 K (.float .f32 (u)) [] := by kernel_rfl
theorem w_impl_Node_mix_15 (a c : Int) (xs : List Nat) (u v : Nat) (K : V → Heap → Prop) : wpFn c_impl_Node_mix Try.f140 (encAs [.ref tN, .cell tF, .cell tF] ((15, a, c, xs), u, v, ())) [] K =
  (match xs[0]? with
    | some y0 => K (.float .f32 (fsub FloatKind.f32 u y0)) []
    | none => False) := by kernel_rfl
theorem w_impl_Node_mix_16 (a c : Int) (xs : List Nat) (u v : Nat) (K : V → Heap → Prop) : wpFn c_impl_Node_mix Try.f140 (encAs [.ref tN, .cell tF, .cell tF] ((16, a, c, xs), u, v, ())) [] K =
  (match xs[0]? with
    | some y0 => K (.float .f32 (fsub FloatKind.f32 (absV u) y0)) []
    | none => False) := by kernel_rfl
noncomputable def s_impl_Node_mix : Sm := semG [.ref tN, .cell tF, .cell tF] (fun x => match x with | ((k, a, c, xs), u, v, _) => numsB k xs && inR k 5 16) fun x => match x with | ((k, a, c, xs), u, v, _) => .float .f32 (mixV k xs u v)
theorem ok_impl_Node_mix : FnOk Try.prog 140 s_impl_Node_mix := fnOk_typedG (fnOk_runC (C := c_impl_Node_mix) rfl mixed (.cons ok_impl_lesser (.cons ok_impl_greater (.cons ok_impl_sizeOf (.cons ok_impl_bulge .nil)))) .nil .nil Try.func140 (by kernel_rfl)) fun (x : (((Int) × (Int) × (Int) × (List Nat)) × (Nat) × (Nat) × Unit)) wf hg K h => by
  obtain ⟨⟨k, a, c, xs⟩, u, v, ⟨⟩⟩ := x
  replace hg : (numsB k xs && inR k 5 16) = true := hg
  replace h : K (.float .f32 (mixV k xs u v)) [] := h
  simp only [Bool.and_eq_true] at hg
  obtain ⟨h1, h2⟩ := hg
  have hl := nums_len h1
  have h2 := inR_iff.1 h2
  rcases (by omega : k = 5 ∨ k = 6 ∨ k = 7 ∨ k = 8 ∨ k = 9 ∨ k = 10 ∨ k = 11 ∨ k = 12 ∨ k = 13 ∨ k = 14 ∨ k = 15 ∨ k = 16) with rfl | rfl | rfl | rfl | rfl | rfl | rfl | rfl | rfl | rfl | rfl | rfl
  · rw [w_impl_Node_mix_5 a c _ u v K]; exact Eq.mp (by kernel_rfl) h
  · rw [w_impl_Node_mix_6 a c _ u v K]; exact Eq.mp (by kernel_rfl) h
  · rw [w_impl_Node_mix_7 a c _ u v K]; exact Eq.mp (by kernel_rfl) h
  · obtain ⟨x, rfl⟩ := list1 hl
    rw [w_impl_Node_mix_8 a c _ u v K]
    replace h : K (.float .f32 (smoN x u v)) [] := h
    unfold smoN at h
    show cond (fgt .f32 (fsub .f32 x (absV (fsub .f32 u v))) 0) (K (.float .f32 (fsub .f32 (lsV u v) (bulV (fsub .f32 x (absV (fsub .f32 u v))) x))) []) (K (.float .f32 (lsV u v)) [])
    revert h
    cases fgt .f32 (fsub .f32 x (absV (fsub .f32 u v))) 0 <;> exact id
  · rw [w_impl_Node_mix_9 a c _ u v K]; exact Eq.mp (by kernel_rfl) h
  · obtain ⟨x, rfl⟩ := list1 hl
    rw [w_impl_Node_mix_10 a c _ u v K]; exact Eq.mp (by kernel_rfl) h
  · rw [w_impl_Node_mix_11 a c _ u v K]; exact Eq.mp (by kernel_rfl) h
  · rw [w_impl_Node_mix_12 a c _ u v K]; exact Eq.mp (by kernel_rfl) h
  · rw [w_impl_Node_mix_13 a c _ u v K]; exact Eq.mp (by kernel_rfl) h
  · rw [w_impl_Node_mix_14 a c _ u v K]; exact Eq.mp (by kernel_rfl) h
  · obtain ⟨x, rfl⟩ := list1 hl
    rw [w_impl_Node_mix_15 a c _ u v K]; exact Eq.mp (by kernel_rfl) h
  · obtain ⟨x, rfl⟩ := list1 hl
    rw [w_impl_Node_mix_16 a c _ u v K]; exact Eq.mp (by kernel_rfl) h

noncomputable def c_impl_Node_point : Ctx := mkC Try.prog tyT [(135, s_impl_coordinates), (39, s_impl_LessVectors), (136, s_impl_SineTurns), (118, s_impl_sizeOf), (137, s_impl_foldOf), (138, s_impl_vectorOf)] [] [] 167 (fun _ => none) 0 false [(135, s_impl_coordinates), (39, s_impl_LessVectors), (136, s_impl_SineTurns), (118, s_impl_sizeOf), (137, s_impl_foldOf), (138, s_impl_vectorOf)] false true true []
theorem w_impl_Node_point_9 (a c : Int) (xs : List Nat) (u v w : Nat) (K : V → Heap → Prop) : wpFn c_impl_Node_point Try.f85 (encAs [.ref tN, .agg tV] ((9, a, c, xs), (u, v, w), ())) [] K =
  (match xs[0]? with
    | some y0 => (match xs[1]? with
      | some y1 => (match xs[2]? with
        | some y2 => K (.agg [(.float .f32 (Prod.fst (subV (u, v, w) (y0, y1, y2)))), (.float .f32 (Prod.fst (Prod.snd (subV (u, v, w) (y0, y1, y2))))), (.float .f32 (Prod.snd (Prod.snd (subV (u, v, w) (y0, y1, y2)))))]) []
        | none => False)
      | none => False)
    | none => False) := by kernel_rfl
theorem w_impl_Node_point_10 (a c : Int) (xs : List Nat) (u v w : Nat) (K : V → Heap → Prop) : wpFn c_impl_Node_point Try.f85 (encAs [.ref tN, .agg tV] ((10, a, c, xs), (u, v, w), ())) [] K =
  (match xs[0]? with
    | some y0 => (match xs[0]? with
      | some y1 => (match xs[0]? with
        | some y2 => K (.agg [(.float .f32 (fdiv FloatKind.f32 u y0)), (.float .f32 (fdiv FloatKind.f32 v y1)), (.float .f32 (fdiv FloatKind.f32 w y2))]) []
        | none => False)
      | none => False)
    | none => False) := by kernel_rfl
theorem w_impl_Node_point_11 (a c : Int) (xs : List Nat) (u v w : Nat) (K : V → Heap → Prop) : wpFn c_impl_Node_point Try.f85 (encAs [.ref tN, .agg tV] ((11, a, c, xs), (u, v, w), ())) [] K =
  (match xs[0]? with
    | some y0 => (match xs[1]? with
      | some y1 => (match xs[2]? with
        | some y2 => K (.agg [(.float .f32 (fdiv FloatKind.f32 u y0)), (.float .f32 (fdiv FloatKind.f32 v y1)), (.float .f32 (fdiv FloatKind.f32 w y2))]) []
        | none => False)
      | none => False)
    | none => False) := by kernel_rfl
theorem w_impl_Node_point_12_0 (a : Int) (xs : List Nat) (u v w : Nat) (K : V → Heap → Prop) : wpFn c_impl_Node_point Try.f85 (encAs [.ref tN, .agg tV] ((12, a, 0, xs), (u, v, w), ())) [] K =
  (match xs[0]? with
    | some y0 => cond (sineOk (fsub FloatKind.f32 1048576000 y0))
      ((match xs[0]? with
        | some y1 => cond (sineOk y1)
          (K (.agg [(.float .f32 (u)), (.float .f32 (fadd FloatKind.f32 (fmul FloatKind.f32 (sineF (fsub FloatKind.f32 1048576000 y0)) v) (fmul FloatKind.f32 (sineF y1) w))), (.float .f32 (fsub FloatKind.f32 (fmul FloatKind.f32 (sineF (fsub FloatKind.f32 1048576000 y0)) w) (fmul FloatKind.f32 (sineF y1) v)))]) [])
          (False)
        | none => False))
      (False)
    | none => False) := by kernel_rfl
theorem w_impl_Node_point_12_1 (a : Int) (xs : List Nat) (u v w : Nat) (K : V → Heap → Prop) : wpFn c_impl_Node_point Try.f85 (encAs [.ref tN, .agg tV] ((12, a, 1, xs), (u, v, w), ())) [] K =
  (match xs[0]? with
    | some y0 => cond (sineOk (fsub FloatKind.f32 1048576000 y0))
      ((match xs[0]? with
        | some y1 => cond (sineOk y1)
          (K (.agg [(.float .f32 (fsub FloatKind.f32 (fmul FloatKind.f32 (sineF (fsub FloatKind.f32 1048576000 y0)) u) (fmul FloatKind.f32 (sineF y1) w))), (.float .f32 (v)), (.float .f32 (fadd FloatKind.f32 (fmul FloatKind.f32 (sineF (fsub FloatKind.f32 1048576000 y0)) w) (fmul FloatKind.f32 (sineF y1) u)))]) [])
          (False)
        | none => False))
      (False)
    | none => False) := by kernel_rfl
theorem w_impl_Node_point_12_2 (a : Int) (xs : List Nat) (u v w : Nat) (K : V → Heap → Prop) : wpFn c_impl_Node_point Try.f85 (encAs [.ref tN, .agg tV] ((12, a, 2, xs), (u, v, w), ())) [] K =
  (match xs[0]? with
    | some y0 => cond (sineOk (fsub FloatKind.f32 1048576000 y0))
      ((match xs[0]? with
        | some y1 => cond (sineOk y1)
          (K (.agg [(.float .f32 (fadd FloatKind.f32 (fmul FloatKind.f32 (sineF (fsub FloatKind.f32 1048576000 y0)) u) (fmul FloatKind.f32 (sineF y1) v))), (.float .f32 (fsub FloatKind.f32 (fmul FloatKind.f32 (sineF (fsub FloatKind.f32 1048576000 y0)) v) (fmul FloatKind.f32 (sineF y1) u))), (.float .f32 (w))]) [])
          (False)
        | none => False))
      (False)
    | none => False) := by kernel_rfl
theorem w_impl_Node_point_13_0 (a : Int) (xs : List Nat) (u v w : Nat) (K : V → Heap → Prop) : wpFn c_impl_Node_point Try.f85 (encAs [.ref tN, .agg tV] ((13, a, 0, xs), (u, v, w), ())) [] K =
 K (.agg [(.float .f32 (absV u)), (.float .f32 (v)), (.float .f32 (w))]) [] := by kernel_rfl
theorem w_impl_Node_point_13_1 (a : Int) (xs : List Nat) (u v w : Nat) (K : V → Heap → Prop) : wpFn c_impl_Node_point Try.f85 (encAs [.ref tN, .agg tV] ((13, a, 1, xs), (u, v, w), ())) [] K =
 K (.agg [(.float .f32 (u)), (.float .f32 (absV v)), (.float .f32 (w))]) [] := by kernel_rfl
theorem w_impl_Node_point_13_2 (a : Int) (xs : List Nat) (u v w : Nat) (K : V → Heap → Prop) : wpFn c_impl_Node_point Try.f85 (encAs [.ref tN, .agg tV] ((13, a, 2, xs), (u, v, w), ())) [] K =
 K (.agg [(.float .f32 (u)), (.float .f32 (v)), (.float .f32 (absV w))]) [] := by kernel_rfl
theorem w_impl_Node_point_14_0 (a : Int) (xs : List Nat) (u v w : Nat) (K : V → Heap → Prop) : wpFn c_impl_Node_point Try.f85 (encAs [.ref tN, .agg tV] ((14, a, 0, xs), (u, v, w), ())) [] K =
  (match xs[0]? with
    | some y0 => K (.agg [(.float .f32 (absV (fsub FloatKind.f32 u (foldV u y0)))), (.float .f32 (v)), (.float .f32 (w))]) []
    | none => False) := by kernel_rfl
theorem w_impl_Node_point_14_1 (a : Int) (xs : List Nat) (u v w : Nat) (K : V → Heap → Prop) : wpFn c_impl_Node_point Try.f85 (encAs [.ref tN, .agg tV] ((14, a, 1, xs), (u, v, w), ())) [] K =
  (match xs[0]? with
    | some y0 => K (.agg [(.float .f32 (u)), (.float .f32 (absV (fsub FloatKind.f32 v (foldV v y0)))), (.float .f32 (w))]) []
    | none => False) := by kernel_rfl
theorem w_impl_Node_point_14_2 (a : Int) (xs : List Nat) (u v w : Nat) (K : V → Heap → Prop) : wpFn c_impl_Node_point Try.f85 (encAs [.ref tN, .agg tV] ((14, a, 2, xs), (u, v, w), ())) [] K =
  (match xs[0]? with
    | some y0 => K (.agg [(.float .f32 (u)), (.float .f32 (v)), (.float .f32 (absV (fsub FloatKind.f32 w (foldV w y0))))]) []
    | none => False) := by kernel_rfl
theorem w_impl_Node_point_15 (a c : Int) (xs : List Nat) (u v w : Nat) (K : V → Heap → Prop) : wpFn c_impl_Node_point Try.f85 (encAs [.ref tN, .agg tV] ((15, a, c, xs), (u, v, w), ())) [] K =
 K (.agg [(.float .f32 (u)), (.float .f32 (v)), (.float .f32 (w))]) [] := by kernel_rfl
theorem w_impl_Node_point_16 (a c : Int) (xs : List Nat) (u v w : Nat) (K : V → Heap → Prop) : wpFn c_impl_Node_point Try.f85 (encAs [.ref tN, .agg tV] ((16, a, c, xs), (u, v, w), ())) [] K =
 K (.agg [(.float .f32 (u)), (.float .f32 (v)), (.float .f32 (w))]) [] := by kernel_rfl
noncomputable def s_impl_Node_point : Sm := semG [.ref tN, .agg tV] (fun x => match x with | ((k, a, c, xs), (u, v, w), _) => numsB k xs && (inR k 9 16 && (axB k a c && turnB k xs))) fun x => match x with | ((k, a, c, xs), (u, v, w), _) => .agg (enc tV (pointN k c xs (u, v, w)))
theorem ok_impl_Node_point : FnOk Try.prog 85 s_impl_Node_point := fnOk_typedG (fnOk_runC (C := c_impl_Node_point) rfl mixed (.cons ok_impl_coordinates (.cons ok_impl_LessVectors (.cons ok_impl_SineTurns (.cons ok_impl_sizeOf (.cons ok_impl_foldOf (.cons ok_impl_vectorOf .nil)))))) .nil .nil Try.func85 (by kernel_rfl) (.cons ok_impl_coordinates (.cons ok_impl_LessVectors (.cons ok_impl_SineTurns (.cons ok_impl_sizeOf (.cons ok_impl_foldOf (.cons ok_impl_vectorOf .nil))))))) fun (x : (((Int) × (Int) × (Int) × (List Nat)) × ((Nat) × (Nat) × (Nat)) × Unit)) wf hg K h => by
  obtain ⟨⟨k, a, c, xs⟩, ⟨u, v, w⟩, ⟨⟩⟩ := x
  replace hg : (numsB k xs && (inR k 9 16 && (axB k a c && turnB k xs))) = true := hg
  replace h : K (.agg (enc tV (pointN k c xs (u, v, w)))) [] := h
  simp only [Bool.and_eq_true] at hg
  obtain ⟨h1, h2, h3, h4⟩ := hg
  have hl := nums_len h1
  have h2 := inR_iff.1 h2
  have ax : k = 12 ∨ k = 13 ∨ k = 14 → c = 0 ∨ c = 1 ∨ c = 2 := by
    intro e
    have : (c == 0 || inR c 0 2) = true := by rcases e with rfl | rfl | rfl <;> exact h3
    rw [Bool.or_eq_true, beq_iff_eq] at this
    rcases this with e | e
    · omega
    · have := inR_iff.1 e; omega
  rcases (by omega : k = 9 ∨ k = 10 ∨ k = 11 ∨ k = 12 ∨ k = 13 ∨ k = 14 ∨ k = 15 ∨ k = 16) with rfl | rfl | rfl | rfl | rfl | rfl | rfl | rfl
  · obtain ⟨x, y, z, rfl⟩ := list3 hl
    rw [w_impl_Node_point_9 a c _ u v w K]; exact Eq.mp (by kernel_rfl) h
  · obtain ⟨x, rfl⟩ := list1 hl
    rw [w_impl_Node_point_10 a c _ u v w K]; exact Eq.mp (by kernel_rfl) h
  · obtain ⟨x, y, z, rfl⟩ := list3 hl
    rw [w_impl_Node_point_11 a c _ u v w K]; exact Eq.mp (by kernel_rfl) h
  · obtain ⟨x, rfl⟩ := list1 hl
    have h4 : (sineOk x && sineOk (fsub .f32 1048576000 x)) = true := h4
    simp only [Bool.and_eq_true] at h4
    rcases ax (by omega) with rfl | rfl | rfl
    · rw [w_impl_Node_point_12_0 a _ u v w K]; exact cond_yes h4.2 (cond_yes h4.1 (Eq.mp (by kernel_rfl) h))
    · rw [w_impl_Node_point_12_1 a _ u v w K]; exact cond_yes h4.2 (cond_yes h4.1 (Eq.mp (by kernel_rfl) h))
    · rw [w_impl_Node_point_12_2 a _ u v w K]; exact cond_yes h4.2 (cond_yes h4.1 (Eq.mp (by kernel_rfl) h))
  · rcases ax (by omega) with rfl | rfl | rfl
    · rw [w_impl_Node_point_13_0 a _ u v w K]; exact Eq.mp (by kernel_rfl) h
    · rw [w_impl_Node_point_13_1 a _ u v w K]; exact Eq.mp (by kernel_rfl) h
    · rw [w_impl_Node_point_13_2 a _ u v w K]; exact Eq.mp (by kernel_rfl) h
  · obtain ⟨x, rfl⟩ := list1 hl
    rcases ax (by omega) with rfl | rfl | rfl
    · rw [w_impl_Node_point_14_0 a _ u v w K]; exact Eq.mp (by kernel_rfl) h
    · rw [w_impl_Node_point_14_1 a _ u v w K]; exact Eq.mp (by kernel_rfl) h
    · rw [w_impl_Node_point_14_2 a _ u v w K]; exact Eq.mp (by kernel_rfl) h
  · rw [w_impl_Node_point_15 a c _ u v w K]; exact Eq.mp (by kernel_rfl) h
  · rw [w_impl_Node_point_16 a c _ u v w K]; exact Eq.mp (by kernel_rfl) h

end Go.Proofs.Ytfhpmcdbfebflaa

/- Distances of shapes: the recursion. -/
set_option linter.unusedVariables false
set_option linter.unusedSimpArgs false
set_option maxRecDepth 100000
namespace Go.Proofs.Ytfhpmcdbfebflaa
open Go.Ev Go.Ev.Fl

def nodeAt (ns : ShapeD) (i : Int) : NodeD := (ns[i.toNat]?).getD (0, 0, 0, [])
def distV : Nat → ShapeD → Int → V3 → Nat
  | 0, _, _, _ => 0
  | N + 1, ns, i, p =>
    bif inR (nodeAt ns i).1 0 4 then leafV (nodeAt ns i).1 (nodeAt ns i).2.2.2 p else
    bif inR (nodeAt ns i).1 5 8 then mixV (nodeAt ns i).1 (nodeAt ns i).2.2.2 (distV N ns (nodeAt ns i).2.1 p) (distV N ns (nodeAt ns i).2.2.1 p) else
    mixV (nodeAt ns i).1 (nodeAt ns i).2.2.2 (distV N ns (nodeAt ns i).2.1 (pointN (nodeAt ns i).1 (nodeAt ns i).2.2.1 (nodeAt ns i).2.2.2 p)) 0
def goodS (ns : ShapeD) : Bool := nodesB ns && ns.all (fun n => turnB n.1 n.2.2.2)

theorem good_at {ns : ShapeD} (h : goodS ns = true) {i : Int} (h0 : 0 ≤ i) (h1 : i < ns.length) : ns[i.toNat]? = some (nodeAt ns i) ∧ nodeB i (nodeAt ns i) = true ∧ turnB (nodeAt ns i).1 (nodeAt ns i).2.2.2 = true := by
  unfold goodS at h
  simp only [Bool.and_eq_true] at h
  obtain ⟨g1, g2⟩ := h
  have hl : i.toNat < ns.length := by omega
  have e : ns[i.toNat]? = some (ns[i.toNat]'hl) := get_lt hl
  have en : nodeAt ns i = ns[i.toNat]'hl := by unfold nodeAt; rw [e]; rfl
  refine ⟨by rw [e, en], ?_, by rw [en]; exact List.all_eq_true.1 g2 _ (List.getElem_mem hl)⟩
  have := List.all_eq_true.1 g1 i.toNat (by simpa using hl)
  rw [e] at this
  simp only at this
  rw [en]
  rwa [Int.toNat_of_nonneg h0] at this
theorem nodeB_parts {i k a c : Int} {xs : List Nat} (h : nodeB i (k, a, c, xs) = true) : numsB k xs = true ∧ axB k a c = true ∧ ∀ d ∈ kids k a c, 0 ≤ d ∧ d < i := by
  have hk := nodeB_kids h
  unfold nodeB at h
  simp only [Bool.and_eq_true] at h
  exact ⟨h.1, h.2.1, fun d hd => by have := hk d hd; omega⟩

noncomputable def sr_impl_Shape_distance (N : Nat) : Sm := semG [.ref tS, .cell tI, .agg tV] (fun x => match x with | (ns, i, p, _) => decide (i.toNat < N) && (goodS ns && (decide (0 ≤ i) && decide (i < ns.length)))) fun x => match x with | (ns, i, p, _) => .float .f32 (distV N ns i p)
noncomputable def c_impl_Shape_distance (N : Nat) : Ctx := mkC Try.prog tyT [(86, sr_impl_Shape_distance N), (83, s_impl_childrenOf), (139, s_impl_Node_leaf), (140, s_impl_Node_mix), (85, s_impl_Node_point)] [] [] 53 (fun _ => none) 0
theorem w_impl_Shape_distance (N : Nat) (ns : ShapeD) (i : Int) (p : V3) (K : V → Heap → Prop) : wpFn (c_impl_Shape_distance N) Try.f86 (encAs [.ref tS, .cell tI, .agg tV] (ns, i, p, ())) [] K =
  cond (decide (0 ≤ i))
    ((match ns[Int.toNat i]? with
      | some y0 => cond ((↑(List.length (kids (Prod.fst y0) (Prod.fst (Prod.snd y0)) (Prod.fst (Prod.snd (Prod.snd y0))))) : Int) == 0)
        (cond (numsB (Prod.fst y0) (Prod.snd (Prod.snd (Prod.snd y0))) && inR (Prod.fst y0) 0 4)
          (K (.float .f32 (leafV (Prod.fst y0) (Prod.snd (Prod.snd (Prod.snd y0))) p)) [])
          (False))
        (cond ((↑(List.length (kids (Prod.fst y0) (Prod.fst (Prod.snd y0)) (Prod.fst (Prod.snd (Prod.snd y0))))) : Int) == 1)
          (cond (numsB (Prod.fst y0) (Prod.snd (Prod.snd (Prod.snd y0))) && (inR (Prod.fst y0) 9 16 && (axB (Prod.fst y0) (Prod.fst (Prod.snd y0)) (Prod.fst (Prod.snd (Prod.snd y0))) && turnB (Prod.fst y0) (Prod.snd (Prod.snd (Prod.snd y0))))))
            (cond (decide (Int.toNat (Prod.fst (Prod.snd y0)) < N) && (goodS ns && (decide (0 ≤ Prod.fst (Prod.snd y0)) && decide (Prod.fst (Prod.snd y0) < (↑(List.length ns) : Int)))))
              (cond (numsB (Prod.fst y0) (Prod.snd (Prod.snd (Prod.snd y0))) && inR (Prod.fst y0) 5 16)
                (K (.float .f32 (mixV (Prod.fst y0) (Prod.snd (Prod.snd (Prod.snd y0))) (distV N ns (Prod.fst (Prod.snd y0)) (pointN (Prod.fst y0) (Prod.fst (Prod.snd (Prod.snd y0))) (Prod.snd (Prod.snd (Prod.snd y0))) p)) 0)) [])
                (False))
              (False))
            (False))
          (cond (decide (Int.toNat (Prod.fst (Prod.snd y0)) < N) && (goodS ns && (decide (0 ≤ Prod.fst (Prod.snd y0)) && decide (Prod.fst (Prod.snd y0) < (↑(List.length ns) : Int)))))
            (cond (decide (Int.toNat (Prod.fst (Prod.snd (Prod.snd y0))) < N) && (goodS ns && (decide (0 ≤ Prod.fst (Prod.snd (Prod.snd y0))) && decide (Prod.fst (Prod.snd (Prod.snd y0)) < (↑(List.length ns) : Int)))))
              (cond (numsB (Prod.fst y0) (Prod.snd (Prod.snd (Prod.snd y0))) && inR (Prod.fst y0) 5 16)
                (K (.float .f32 (mixV (Prod.fst y0) (Prod.snd (Prod.snd (Prod.snd y0))) (distV N ns (Prod.fst (Prod.snd y0)) p) (distV N ns (Prod.fst (Prod.snd (Prod.snd y0))) p))) [])
                (False))
              (False))
            (False)))
      | none => False))
    (False) := by kernel_rfl
theorem okr_impl_Shape_distance : ∀ N, FnOk Try.prog 86 (sr_impl_Shape_distance N)
| 0 => fnOk_never fun _ => rfl
| N + 1 => fnOk_typedG (fnOk_runC (C := c_impl_Shape_distance N) rfl mixed (.cons (okr_impl_Shape_distance N) (.cons ok_impl_childrenOf (.cons ok_impl_Node_leaf (.cons ok_impl_Node_mix (.cons ok_impl_Node_point .nil))))) .nil .nil Try.func86 (by kernel_rfl)) fun (x : ((ShapeD) × (Int) × (V3) × Unit)) wf hg K h => by
  obtain ⟨ns, i, p, ⟨⟩⟩ := x
  replace hg : (decide (i.toNat < (N + 1)) && (goodS ns && (decide (0 ≤ i) && decide (i < ns.length)))) = true := hg
  replace h : K (.float .f32 (distV (N + 1) ns i p)) [] := h
  rw [w_impl_Shape_distance N ns i p K]
  simp only [Bool.and_eq_true, decide_eq_true_eq] at hg
  obtain ⟨g3, g0, g1, g2⟩ := hg
  obtain ⟨e, hb, ht⟩ := good_at g0 g1 g2
  have hs : distV (N + 1) ns i p = bif inR (nodeAt ns i).1 0 4 then leafV (nodeAt ns i).1 (nodeAt ns i).2.2.2 p else
    bif inR (nodeAt ns i).1 5 8 then mixV (nodeAt ns i).1 (nodeAt ns i).2.2.2 (distV N ns (nodeAt ns i).2.1 p) (distV N ns (nodeAt ns i).2.2.1 p) else
    mixV (nodeAt ns i).1 (nodeAt ns i).2.2.2 (distV N ns (nodeAt ns i).2.1 (pointN (nodeAt ns i).1 (nodeAt ns i).2.2.1 (nodeAt ns i).2.2.2 p)) 0 := rfl
  rw [hs] at h
  generalize nodeAt ns i = n at *
  obtain ⟨k, a, c, xs⟩ := n
  obtain ⟨b1, b2, b3⟩ := nodeB_parts hb
  have hk := nums_isK b1
  simp only [d_t g1, e, cond_true]
  simp only at h ht
  rcases kind_cases a c hk with ⟨q1, q2, q3⟩ | ⟨q1, q2, q3⟩ | ⟨q1, q2, q3⟩ <;> rw [q3] at b3 ⊢ <;> simp only [q1, q2, cond_true, cond_false] at h
  · rw [b1, q1]; exact h
  · have k1 := b3 a (by simp)
    have k9 : inR k 9 16 = true := by
      have := inR_iff.1 (show inR k 0 16 = true from hk)
      have n1 : ¬ (0 ≤ k ∧ k ≤ 4) := fun e => by rw [inR_iff.2 e] at q1; cases q1
      have n2 : ¬ (5 ≤ k ∧ k ≤ 8) := fun e => by rw [inR_iff.2 e] at q2; cases q2
      exact inR_iff.2 (by omega)
    have k5 : inR k 5 16 = true := inR_iff.2 (by have := inR_iff.1 k9; omega)
    rw [b1, b2, ht, k9, k5, g0, d_t k1.1, d_t (show a < (ns.length : Int) by omega), d_t (show a.toNat < N by omega)]
    exact h
  · have k1 := b3 a (by simp)
    have k2 := b3 c (by simp)
    have k5 : inR k 5 16 = true := inR_iff.2 (by have := inR_iff.1 q2; omega)
    rw [b1, k5, g0, d_t k1.1, d_t (show a < (ns.length : Int) by omega), d_t (show a.toNat < N by omega), d_t k2.1, d_t (show c < (ns.length : Int) by omega), d_t (show c.toNat < N by omega)]
    exact h
noncomputable abbrev s_impl_Shape_distance : Sm := sr_impl_Shape_distance 17
theorem ok_impl_Shape_distance : FnOk Try.prog 86 s_impl_Shape_distance := okr_impl_Shape_distance 17

end Go.Proofs.Ytfhpmcdbfebflaa

/- Distances of shapes: the functions that ask for them. -/
set_option linter.unusedVariables false
set_option linter.unusedSimpArgs false
set_option maxRecDepth 100000
namespace Go.Proofs.Ytfhpmcdbfebflaa
open Go.Ev Go.Ev.Fl

theorem valid_leng {s : ShapeD} (h : validS s = true) : 1 ≤ s.length ∧ s.length ≤ 16 := by
  unfold validS at h
  simp only [Bool.and_eq_true] at h
  have := inR_iff.1 h.1
  omega
theorem valid_nodes {s : ShapeD} (h : validS s = true) : nodesB s = true := by
  unfold validS at h
  simp only [Bool.and_eq_true] at h
  exact h.2.1
def turnsB (ns : ShapeD) : Bool := ns.all (fun n => turnB n.1 n.2.2.2)
def okS (ns : ShapeD) : Bool := validS ns && turnsB ns
theorem okS_good {s : ShapeD} (h : okS s = true) : goodS s = true ∧ validS s = true ∧ 1 ≤ s.length ∧ s.length ≤ 16 := by
  unfold okS at h
  simp only [Bool.and_eq_true] at h
  refine ⟨?_, h.1, valid_leng h.1⟩
  unfold goodS
  rw [valid_nodes h.1]
  exact h.2
def disV (ns : ShapeD) (p : V3) : Nat := distV 17 ns (ns.length - 1) p

noncomputable def c_impl_Shape_last : Ctx := mkC Try.prog tyT [] [] [] 9 (fun _ => none) 0
theorem w_impl_Shape_last (s : ShapeD) (K : V → Heap → Prop) : wpFn c_impl_Shape_last Try.f84 (encAs [.ref tS] (s, ())) [] K =
 K (.int .i64 (IntKind.wrap IntKind.i64 ((↑(List.length s) : Int) - 1))) [] := by kernel_rfl
noncomputable def s_impl_Shape_last : Sm := semT [.ref tS] fun x => match x with | (s, _) => .int .i64 (IntKind.i64.wrap ((s.length : Int) - 1))
theorem ok_impl_Shape_last : FnOk Try.prog 84 s_impl_Shape_last := fnOk_typed (fnOk_runC (C := c_impl_Shape_last) rfl mixed .nil .nil .nil Try.func84 (by kernel_rfl)) fun (x : ((ShapeD) × Unit)) wf K h => by
  obtain ⟨s, ⟨⟩⟩ := x
  replace h : K (.int .i64 (IntKind.i64.wrap ((s.length : Int) - 1))) [] := h
  rw [w_impl_Shape_last s K]
  exact h

noncomputable def c_impl_Shape_at : Ctx := mkC Try.prog tyT [(84, s_impl_Shape_last), (86, s_impl_Shape_distance)] [] [] 10 (fun _ => none) 0
theorem w_impl_Shape_at (ns : ShapeD) (p : V3) (K : V → Heap → Prop) : wpFn c_impl_Shape_at Try.f73 (encAs [.ref tS, .agg tV] (ns, p, ())) [] K =
 cond (decide (Int.toNat (IntKind.wrap IntKind.i64 ((↑(List.length ns) : Int) - 1)) < 17) && (goodS ns && (decide (0 ≤ IntKind.wrap IntKind.i64 ((↑(List.length ns) : Int) - 1)) && decide (IntKind.wrap IntKind.i64 ((↑(List.length ns) : Int) - 1) < (↑(List.length ns) : Int)))))
 (K (.float .f32 (distV 17 ns (IntKind.wrap IntKind.i64 ((↑(List.length ns) : Int) - 1)) p)) [])
 (False) := by kernel_rfl
noncomputable def s_impl_Shape_at : Sm := semG [.ref tS, .agg tV] (fun x => match x with | (ns, p, _) => okS ns) fun x => match x with | (ns, p, _) => .float .f32 (disV ns p)
theorem ok_impl_Shape_at : FnOk Try.prog 73 s_impl_Shape_at := fnOk_typedG (fnOk_runC (C := c_impl_Shape_at) rfl mixed (.cons ok_impl_Shape_last (.cons ok_impl_Shape_distance .nil)) .nil .nil Try.func73 (by kernel_rfl)) fun (x : ((ShapeD) × (V3) × Unit)) wf hg K h => by
  obtain ⟨ns, p, ⟨⟩⟩ := x
  replace hg : (okS ns) = true := hg
  replace h : K (.float .f32 (disV ns p)) [] := h
  rw [w_impl_Shape_at ns p K]
  obtain ⟨g1, g2, g3, g4⟩ := okS_good hg
  have e : IntKind.i64.wrap ((ns.length : Int) - 1) = (ns.length : Int) - 1 := i64_of (by omega) (by omega)
  rw [e, g1, d_t (show ((ns.length : Int) - 1).toNat < 17 by omega), d_t (show 0 ≤ (ns.length : Int) - 1 by omega), d_t (show (ns.length : Int) - 1 < ns.length by omega)]
  exact h

noncomputable def c_impl_DistanceAt : Ctx := mkC Try.prog tyT [(33, s_impl_ValidShape), (73, s_impl_Shape_at)] [] [] 11 (fun _ => none) 0
theorem w_impl_DistanceAt (ns : ShapeD) (p : V3) (K : V → Heap → Prop) : wpFn c_impl_DistanceAt Try.f18 (encAs [.agg tS, .agg tV] (ns, p, ())) [] K =
 cond (!validS ns)
 (K (.tuple [(.float .f32 0), (.bool false)]) [])
 (cond (okS ns)
 (K (.tuple [(.float .f32 (disV ns p)), (.bool true)]) [])
 (False)) := by kernel_rfl
noncomputable def s_impl_DistanceAt : Sm := semG [.agg tS, .agg tV] (fun x => match x with | (ns, p, _) => okS ns) fun x => match x with | (ns, p, _) => .tuple [.float .f32 (disV ns p), .bool true]
theorem ok_impl_DistanceAt : FnOk Try.prog 18 s_impl_DistanceAt := fnOk_typedG (fnOk_runC (C := c_impl_DistanceAt) rfl mixed (.cons ok_impl_ValidShape (.cons ok_impl_Shape_at .nil)) .nil .nil Try.func18 (by kernel_rfl)) fun (x : ((ShapeD) × (V3) × Unit)) wf hg K h => by
  obtain ⟨ns, p, ⟨⟩⟩ := x
  replace hg : (okS ns) = true := hg
  replace h : K (.tuple [.float .f32 (disV ns p), .bool true]) [] := h
  rw [w_impl_DistanceAt ns p K]
  obtain ⟨g1, g2, g3, g4⟩ := okS_good hg
  rw [g2, hg]
  exact h

end Go.Proofs.Ytfhpmcdbfebflaa

/- Parts, depths and leaves of shapes: walks. -/
set_option linter.unusedVariables false
set_option linter.unusedSimpArgs false
set_option maxRecDepth 100000
namespace Go.Proofs.Ytfhpmcdbfebflaa
open Go.Ev Go.Ev.Fl

noncomputable def c_impl_sameNode : Ctx := mkC Try.prog tyT [(125, s_impl_sameList)] [] [] 31 (fun _ => none) 0
theorem w_impl_sameNode (k a b : Int) (xs : List Nat) (k' a' b' : Int) (xs' : List Nat) (K : V → Heap → Prop) : wpFn c_impl_sameNode Try.f91 (encAs [.agg tN, .agg tN] ((k, a, b, xs), (k', a', b', xs'), ())) [] K =
 cond (k == k')
 (cond (a == a')
 (cond (b == b')
 (K (.bool (xs == xs')) [])
 (K (.bool false) []))
 (K (.bool false) []))
 (K (.bool false) []) := by kernel_rfl
noncomputable def s_impl_sameNode : Sm := semT [.agg tN, .agg tN] fun x => match x with | ((k, a, b, xs), (k', a', b', xs'), _) => .bool ((k, a, b, xs) == (k', a', b', xs'))
theorem ok_impl_sameNode : FnOk Try.prog 91 s_impl_sameNode := fnOk_typed (fnOk_runC (C := c_impl_sameNode) rfl mixed (.cons ok_impl_sameList .nil) .nil .nil Try.func91 (by kernel_rfl)) fun (x : (((Int) × (Int) × (Int) × (List Nat)) × ((Int) × (Int) × (Int) × (List Nat)) × Unit)) wf K h => by
  obtain ⟨⟨k, a, b, xs⟩, ⟨k', a', b', xs'⟩, ⟨⟩⟩ := x
  replace h : K (.bool ((k, a, b, xs) == (k', a', b', xs'))) [] := h
  rw [w_impl_sameNode k a b xs k' a' b' xs' K]
  rw [show ((k, a, b, xs) == (k', a', b', xs')) = (k == k' && (a == a' && (b == b' && xs == xs'))) from rfl] at h
  revert h
  cases k == k' <;> cases a == a' <;> cases b == b' <;> exact id

noncomputable def a_slices_EqualFunc__implNode : Nat → Option Ann := fun n => bif Nat.beq n 4 then some ⟨[1,2,15,16,17],0,false⟩ else none
noncomputable def c_slices_EqualFunc__implNode : Ctx := mkC Try.prog tyT [(91, s_impl_sameNode)] [] [] 32 a_slices_EqualFunc__implNode 0
noncomputable def fr_slices_EqualFunc__implNode_4 (xs ys : List (NodeD)) (n i : Int) : Fr := [(1, .vec (tN) ys), (2, .fn 91 []), (15, .vec (tN) xs), (16, .int .i64 n), (17, .int .i64 i)]
theorem r_slices_EqualFunc__implNode_4 (xs ys : List (NodeD)) (n i : Int) (Kn : Fr → Heap → Prop) (K : V → Heap → Prop) : round c_slices_EqualFunc__implNode ⟨[1,2,15,16,17],0,false⟩ (lb c_slices_EqualFunc__implNode 4 Try.f90) (fr_slices_EqualFunc__implNode_4 xs ys n i) [] Kn (lk c_slices_EqualFunc__implNode 4 Try.f90 [] K) =
  cond (decide (i < n))
    (cond (decide (0 ≤ i))
      ((match xs[Int.toNat i]? with
        | some y0 => cond (decide (0 ≤ i))
          ((match ys[Int.toNat i]? with
            | some y1 => cond (!y0 == y1)
              (K (.bool false) [])
              (Kn [(1, (.vec tN (ys))), (2, (.fn 91 [])), (15, (.vec tN (xs))), (16, (.int .i64 (n))), (17, (.int .i64 (IntKind.wrap IntKind.i64 (i + 1))))] [])
            | none => False))
          (False)
        | none => False))
      (False))
    (K (.bool true) []) := by kernel_rfl
theorem w_slices_EqualFunc__implNode (xs ys : List (NodeD)) (K : V → Heap → Prop) : wpFn c_slices_EqualFunc__implNode Try.f90 (encAs [.cell (.slice (tN)), .cell (.slice (tN)), .fn 91] (xs, ys, (), ())) [] K =
 cond ((↑(List.length xs) : Int) != (↑(List.length ys) : Int))
 (K (.bool false) [])
 (LoopE c_slices_EqualFunc__implNode ⟨[1, 2, 15, 16, 17], 0, false⟩ (lb c_slices_EqualFunc__implNode 4 Try.f90) [(1, (.vec tN (ys))), (2, (.fn 91 [])), (15, (.vec tN (xs))), (16, (.int .i64 ((↑(List.length xs) : Int)))), (17, (.int .i64 0))] [] (lk c_slices_EqualFunc__implNode 4 Try.f90 [] K)) := by kernel_rfl
noncomputable def s_slices_EqualFunc__implNode : Sm := semT [.cell (.slice (tN)), .cell (.slice (tN)), .fn 91] fun x => match x with | (xs, ys, _, _) => .bool (xs == ys)
theorem ok_slices_EqualFunc__implNode : FnOk Try.prog 90 s_slices_EqualFunc__implNode := fnOk_typed (fnOk_runC (C := c_slices_EqualFunc__implNode) rfl mixed (.cons ok_impl_sameNode .nil) .nil .nil Try.func90 (by kernel_rfl)) fun (x : ((List (NodeD)) × (List (NodeD)) × Unit × Unit)) wf K h => by
  obtain ⟨xs, ys, ⟨⟩, ⟨⟩⟩ := x
  replace h : K (.bool (xs == ys)) [] := h
  rw [w_slices_EqualFunc__implNode xs ys K]
  obtain ⟨⟨wl, _⟩, _⟩ := wf
  have wl : xs.length ≤ 9223372036854775807 := wl
  rw [bne_cast]
  by_cases hl : xs.length = ys.length
  · rw [show (xs.length != ys.length) = false by rw [hl]; exact bne_self_eq_false _]
    simp only [cond_false]
    refine loop_run (σ := Nat) (fun i => fr_slices_EqualFunc__implNode_4 xs ys xs.length i) (fun _ => []) (fun i => i ≤ ys.length ∧ xs.take i = ys.take i) (fun i => ys.length - i) ?_ 0 ⟨Nat.zero_le _, rfl⟩
    intro i hi Kn hk
    rw [r_slices_EqualFunc__implNode_4 xs ys xs.length i Kn K]
    by_cases hlt : i < ys.length
    · have hlx : i < xs.length := by omega
      simp only [d_lt hlx, d_0, cond_true, Int.toNat_natCast, get_lt hlt, get_lt hlx]
      by_cases he : xs[i]'hlx = ys[i]'hlt
      · simp only [he, beq_self_eq_true, Bool.not_true, cond_false]
        rw [i64_of (by omega) (by omega)]
        refine hk (i + 1) ⟨hlt, ?_⟩ (by omega)
        rw [take_one hlx, take_one hlt, hi.2, he]
      · have hb : (xs[i]'hlx == ys[i]'hlt) = false := beq_eq_false_iff_ne.2 he
        simp only [hb, Bool.not_false, cond_true]
        have hne : (xs == ys) = false := beq_eq_false_iff_ne.2 fun e => he (by simp only [e])
        rw [hne] at h; exact h
    · have hlx : ¬ i < xs.length := by omega
      simp only [d_nlt hlx, cond_false]
      have : xs = ys := by
        have := hi.2
        rwa [List.take_of_length_le (by omega), List.take_of_length_le (by omega)] at this
      rw [this, beq_self_eq_true] at h; exact h
  · have : (xs.length != ys.length) = true := by simp [hl]
    simp only [this, cond_true]
    have hne : (xs == ys) = false := beq_eq_false_iff_ne.2 fun e => hl (by rw [e])
    rw [hne] at h; exact h

noncomputable def c_impl_SameShape : Ctx := mkC Try.prog tyT [(90, s_slices_EqualFunc__implNode), (91, s_impl_sameNode)] [] [] 10 (fun _ => none) 0
theorem w_impl_SameShape (m n : ShapeD) (K : V → Heap → Prop) : wpFn c_impl_SameShape Try.f32 (encAs [.agg tS, .agg tS] (m, n, ())) [] K =
 K (.bool (m == n)) [] := by kernel_rfl
noncomputable def s_impl_SameShape : Sm := semT [.agg tS, .agg tS] fun x => match x with | (m, n, _) => .bool (m == n)
theorem ok_impl_SameShape : FnOk Try.prog 32 s_impl_SameShape := fnOk_typed (fnOk_runC (C := c_impl_SameShape) rfl mixed (.cons ok_slices_EqualFunc__implNode (.cons ok_impl_sameNode .nil)) .nil .nil Try.func32 (by kernel_rfl)) fun (x : ((ShapeD) × (ShapeD) × Unit)) wf K h => by
  obtain ⟨m, n, ⟨⟩⟩ := x
  replace h : K (.bool (m == n)) [] := h
  rw [w_impl_SameShape m n K]
  exact h

theorem nodes_at {ns : ShapeD} (h : nodesB ns = true) {i : Int} (h0 : 0 ≤ i) (h1 : i < ns.length) : ns[i.toNat]? = some (nodeAt ns i) ∧ nodeB i (nodeAt ns i) = true := by
  have hl : i.toNat < ns.length := by omega
  have e : ns[i.toNat]? = some (ns[i.toNat]'hl) := get_lt hl
  have en : nodeAt ns i = ns[i.toNat]'hl := by unfold nodeAt; rw [e]; rfl
  refine ⟨by rw [e, en], ?_⟩
  have := List.all_eq_true.1 h i.toNat (by simpa using hl)
  rw [e] at this
  simp only at this
  rw [en]
  rwa [Int.toNat_of_nonneg h0] at this
def dI (ds : List Int) (c : Int) : Int := (ds[c.toNat]?).getD 0
def dMax (ds cs : List Int) : Int := cs.foldl (fun m c => max m (dI ds c)) 0
def dpL (ns : ShapeD) : Nat → List Int
  | 0 => []
  | i + 1 => dpL ns i ++ [dMax (dpL ns i) (kidsN (nodeAt ns i)) + 1]
noncomputable def c_impl_itself : Ctx := mkC Try.prog tyT [] [] [] 4 (fun _ => none) 0
theorem w_impl_itself (n : Int) (K : V → Heap → Prop) : wpFn c_impl_itself Try.f89 (encAs [.cell tI] (n, ())) [] K =
 K (.int .i64 (n)) [] := by kernel_rfl
noncomputable def s_impl_itself : Sm := semT [.cell tI] fun x => match x with | (n, _) => .int .i64 n
theorem ok_impl_itself : FnOk Try.prog 89 s_impl_itself := fnOk_typed (fnOk_runC (C := c_impl_itself) rfl mixed .nil .nil .nil Try.func89 (by kernel_rfl)) fun (x : ((Int) × Unit)) wf K h => by
  obtain ⟨n, ⟨⟩⟩ := x
  replace h : K (.int .i64 n) [] := h
  rw [w_impl_itself n K]
  exact h

def markK (bs : List Bool) (cs : List Int) : List Bool := cs.foldl (fun b c => b.set c.toNat true) bs
theorem markK_len : ∀ (cs : List Int) (bs : List Bool), (markK bs cs).length = bs.length
  | [], _ => rfl
  | c :: cs, bs => by
    show (markK (bs.set c.toNat true) cs).length = _
    rw [markK_len cs, List.length_set]
def belGo (ns : ShapeD) : Nat → List Bool → List Bool
  | 0, bs => bs
  | i + 1, bs => belGo ns i (bif (bs[i]?).getD false then markK bs (kidsN (nodeAt ns i)) else bs)
def belV (ns : ShapeD) (node : Int) : List Bool := belGo ns ns.length ((List.replicate ns.length false).set node.toNat true)

noncomputable def a_impl_Shape_below_vi : Nat → Option Ann := fun n => bif Nat.beq n 4 then some ⟨[0,2,7,8],1,false⟩ else bif Nat.beq n 8 then some ⟨[0,2,7,8,43,44,45],1,false⟩ else none
noncomputable def c_impl_Shape_below_vi : Ctx := mkC Try.prog tyT [(83, s_impl_childrenOf), (89, s_impl_itself)] [] [] 56 a_impl_Shape_below_vi 0
noncomputable def gp_impl_Shape_below_vi : List (List (Option Ty)) := List.map giveR [.cell (.own .bool)]
noncomputable def fr_impl_Shape_below_vi_4 (ns : ShapeD) (bs : List Bool) (i : Int) : Fr := [(0, .ref [.vec tN ns] 0), (2, .fn 89 []), (7, .obj 0 0), (8, .int .i64 i)]
noncomputable def hp_impl_Shape_below_vi_4 (ns : ShapeD) (bs : List Bool) (i : Int) : Heap := [.sl 0 .bool bs]
theorem r_impl_Shape_below_vi_4 (ns : ShapeD) (bs : List Bool) (i : Int) (Kn : Fr → Heap → Prop) (K : V → Heap → Prop) : round c_impl_Shape_below_vi ⟨[0,2,7,8],1,false⟩ (lb c_impl_Shape_below_vi 4 Try.f88) (fr_impl_Shape_below_vi_4 ns bs i) (hp_impl_Shape_below_vi_4 ns bs i) Kn (lkG gp_impl_Shape_below_vi c_impl_Shape_below_vi 4 Try.f88 [] K) =
  cond (decide (i ≥ 0))
    (cond (decide (0 ≤ i) && Nat.blt (Int.toNat i) (List.length bs))
      ((match bs[Int.toNat i]? with
        | some x0 => cond (!x0)
          (Kn [(0, (.ref [(.vec tN (ns))] 0)), (2, (.fn 89 [])), (7, (.obj 0 0)), (8, (.int .i64 (IntKind.wrap IntKind.i64 (i - 1))))] [(.sl 0 .bool (bs))])
          (cond (decide (0 ≤ i))
            ((match ns[Int.toNat i]? with
              | some y1 => LoopE c_impl_Shape_below_vi ⟨[0, 2, 7, 8, 43, 44, 45], 1, false⟩ (pathB c_impl_Shape_below_vi [4, 8] (bodyOf Try.f88)) [(0, (.ref [(.vec tN (ns))] 0)), (2, (.fn 89 [])), (7, (.obj 0 0)), (8, (.int .i64 (i))), (43, (.vec (.int .i64) (kids (Prod.fst y1) (Prod.fst (Prod.snd y1)) (Prod.fst (Prod.snd (Prod.snd y1)))))), (44, (.int .i64 ((↑(List.length (kids (Prod.fst y1) (Prod.fst (Prod.snd y1)) (Prod.fst (Prod.snd (Prod.snd y1))))) : Int)))), (45, (.int .i64 0))] [(.sl 0 .bool (bs))] (pathK c_impl_Shape_below_vi [(4, ⟨[0,2,7,8],1,false⟩, Kn)] 8 (bodyOf Try.f88) (kFnG gp_impl_Shape_below_vi c_impl_Shape_below_vi Try.f88 [] K))
              | none => False))
            (False))
        | none => False))
      (False))
    (K (.obj 0 0) [(.sl 0 .bool (bs))]) := by kernel_rfl
noncomputable def fr_impl_Shape_below_vi_8 (ns : ShapeD) (bs : List Bool) (i : Int) (cs : List Int) (m j : Int) : Fr := [(0, .ref [.vec tN ns] 0), (2, .fn 89 []), (7, .obj 0 0), (8, .int .i64 i), (43, .vec tI cs), (44, .int .i64 m), (45, .int .i64 j)]
noncomputable def hp_impl_Shape_below_vi_8 (ns : ShapeD) (bs : List Bool) (i : Int) (cs : List Int) (m j : Int) : Heap := [.sl 0 .bool bs]
theorem r_impl_Shape_below_vi_8 (ns : ShapeD) (bs : List Bool) (i : Int) (cs : List Int) (m j : Int) (Kn4 : Fr → Heap → Prop) (Kn : Fr → Heap → Prop) (K : V → Heap → Prop) : round c_impl_Shape_below_vi ⟨[0,2,7,8,43,44,45],1,false⟩ (pathB c_impl_Shape_below_vi [4, 8] (bodyOf Try.f88)) (fr_impl_Shape_below_vi_8 ns bs i cs m j) (hp_impl_Shape_below_vi_8 ns bs i cs m j) Kn (pathK c_impl_Shape_below_vi [(4, ⟨[0,2,7,8],1,false⟩, Kn4)] 8 (bodyOf Try.f88) (kFnG gp_impl_Shape_below_vi c_impl_Shape_below_vi Try.f88 [] K)) =
  cond (decide (j < m))
    (cond (decide (0 ≤ j))
      ((match cs[Int.toNat j]? with
        | some y0 => cond (decide (0 ≤ y0) && Nat.blt (Int.toNat y0) (List.length bs))
          ((match bs[Int.toNat y0]? with
            | some x1 => Kn [(0, (.ref [(.vec tN (ns))] 0)), (2, (.fn 89 [])), (7, (.obj 0 0)), (8, (.int .i64 (i))), (43, (.vec (.int .i64) (cs))), (44, (.int .i64 (m))), (45, (.int .i64 (IntKind.wrap IntKind.i64 (j + 1))))] [(.sl 0 .bool (List.set bs (Int.toNat y0) true))]
            | none => False))
          (False)
        | none => False))
      (False))
    (Kn4 [(0, (.ref [(.vec tN (ns))] 0)), (2, (.fn 89 [])), (7, (.obj 0 0)), (8, (.int .i64 (IntKind.wrap IntKind.i64 (i - 1))))] [(.sl 0 .bool (bs))]) := by kernel_rfl
theorem w_impl_Shape_below_vi (ns : ShapeD) (node : Int) (K : V → Heap → Prop) : wpFnG gp_impl_Shape_below_vi c_impl_Shape_below_vi Try.f88 (encAs [.ref tS, .cell tI, .fn 89] (ns, node, (), ())) [] K =
  cond (decide (0 ≤ (↑(List.length ns) : Int)) && (decide ((↑(List.length ns) : Int) ≤ (↑(List.length ns) : Int)) && decide ((↑1 : Int) * (↑(List.length ns) : Int) ≤ 281474976710656)))
    (cond (decide (0 ≤ node) && Nat.blt (Int.toNat node) (List.length (List.replicate (Int.toNat (↑(List.length ns) : Int)) false)))
      ((match (List.replicate (Int.toNat (↑(List.length ns) : Int)) false)[Int.toNat node]? with
        | some x0 => LoopE c_impl_Shape_below_vi ⟨[0, 2, 7, 8], 1, false⟩ (lb c_impl_Shape_below_vi 4 Try.f88) [(0, (.ref [(.vec tN (ns))] 0)), (2, (.fn 89 [])), (7, (.obj 0 0)), (8, (.int .i64 (IntKind.wrap IntKind.i64 ((↑(List.length ns) : Int) - 1))))] [(.sl 0 .bool (List.set (List.replicate (Int.toNat (↑(List.length ns) : Int)) false) (Int.toNat node) true))] (lkG gp_impl_Shape_below_vi c_impl_Shape_below_vi 4 Try.f88 [] K)
        | none => False))
      (False))
    (False) := by kernel_rfl
noncomputable def s_impl_Shape_below_vi : Sm := semV [.ref tS, .cell tI, .fn 89] [.cell (.own .bool)] (fun x => match x with | (ns, node, _, _) => nodesB ns && (inR node 0 (ns.length - 1) && decide (ns.length ≤ 16))) fun x => match x with | (ns, node, _, _) => (belV ns node, ())
theorem ok_impl_Shape_below_vi : FnOkL Try.prog 88 s_impl_Shape_below_vi := fnOkO_give (fnOkO_runG (C := c_impl_Shape_below_vi) gp_impl_Shape_below_vi rfl mixed (.cons ok_impl_childrenOf (.cons ok_impl_itself .nil)) .nil .nil Try.func88 (by kernel_rfl)) rfl fun (x : ((ShapeD) × (Int) × Unit × Unit)) wf hg K h => by
  obtain ⟨ns, node, ⟨⟩, ⟨⟩⟩ := x
  replace hg : (nodesB ns && (inR node 0 (ns.length - 1) && decide (ns.length ≤ 16))) = true := hg
  replace h : K (tup (valRs [.cell (.own .bool)] ((belV ns node, ())) 0)) (thRs [.cell (.own .bool)] ((belV ns node, ()))) := h
  rw [w_impl_Shape_below_vi ns node K]
  simp only [Bool.and_eq_true, decide_eq_true_eq] at hg
  obtain ⟨hn, hnode, hl16⟩ := hg
  have hnode := inR_iff.1 hnode
  simp only [Int.toNat_natCast, List.length_replicate]
  have hrep : (List.replicate ns.length false)[node.toNat]? = some false := by rw [List.getElem?_replicate, if_pos (by omega)]
  refine cond_yes (by simp only [Bool.and_eq_true, decide_eq_true_eq]; omega) ?_
  simp only [d_t hnode.1, blt_t (show node.toNat < ns.length by omega), Bool.and_self, cond_true, hrep]
  rw [i64_of (n := (ns.length : Int) - 1) (by omega) (by omega)]
  unfold belV at h
  refine loop_run (σ := Nat × Int × List Bool) (fun q => fr_impl_Shape_below_vi_4 ns [] q.2.1) (fun q => hp_impl_Shape_below_vi_4 ns q.2.2 0) (fun q => q.1 ≤ ns.length ∧ q.2.1 = (q.1 : Int) - 1 ∧ q.2.2.length = ns.length ∧ belGo ns q.1 q.2.2 = belGo ns ns.length ((List.replicate ns.length false).set node.toNat true)) (fun q => q.1) ?_ (ns.length, (ns.length : Int) - 1, (List.replicate ns.length false).set node.toNat true) ⟨Nat.le_refl _, rfl, by simp, rfl⟩
  rintro ⟨i, ii, bs⟩ ⟨hi, hii, hbl, hgo⟩ Kn hk
  simp only at hi hii hbl hgo hk ⊢
  rw [← hgo] at h
  rw [show fr_impl_Shape_below_vi_4 ns [] ii = fr_impl_Shape_below_vi_4 ns bs ii from rfl, show hp_impl_Shape_below_vi_4 ns bs 0 = hp_impl_Shape_below_vi_4 ns bs ii from rfl, r_impl_Shape_below_vi_4 ns bs ii Kn K]
  cases i with
  | zero =>
    rw [d_f (show ¬ ii ≥ 0 by omega)]
    exact h
  | succ i =>
    have ei : ii = (i : Int) := by omega
    subst ei
    have hs : belGo ns (i + 1) bs = belGo ns i (bif (bs[i]?).getD false then markK bs (kidsN (nodeAt ns i)) else bs) := rfl
    rw [hs] at hgo
    obtain ⟨e, hb⟩ := nodes_at hn (i := (i : Int)) (by omega) (by omega)
    have hw : IntKind.i64.wrap ((i : Int) - 1) = (i : Int) - 1 := i64_of (by omega) (by omega)
    have hbi := get_lt (show i < bs.length by omega)
    rw [hbi] at hgo
    simp only [d_t (show (i : Int) ≥ 0 by omega), d_0, Int.toNat_natCast, blt_t (show i < bs.length by omega), Bool.and_self, cond_true, hbi, hw]
    simp only [Option.getD_some] at hgo
    cases hx : bs[i]'(by omega) with
    | false =>
      rw [hx] at hgo
      exact hk (i, (i : Int) - 1, bs) ⟨by simp only; omega, rfl, hbl, hgo⟩ (Nat.lt_succ_self i)
    | true =>
      rw [hx] at hgo
      rw [Int.toNat_natCast] at e
      simp only [Bool.not_true, cond_false, e]
      generalize nodeAt ns (i : Int) = nd at *
      obtain ⟨k, a, c, xs⟩ := nd
      have b3 := (nodeB_parts hb).2.2
      have hk2 := kids_len (k, a, c, xs)
      change (kids k a c).length ≤ 2 at hk2
      change belGo ns i (markK bs (kids k a c)) = _ at hgo
      simp only
      generalize kids k a c = cs at *
      have mlen : ∀ j, (markK bs (cs.take j)).length = bs.length := fun j => markK_len _ _
      refine loop_run (σ := Nat) (fun j => fr_impl_Shape_below_vi_8 ns [] i cs cs.length j) (fun j => hp_impl_Shape_below_vi_8 ns (markK bs (cs.take j)) 0 [] 0 0) (fun j => j ≤ cs.length) (fun j => cs.length - j) ?_ 0 (Nat.zero_le _)
      intro j hj Kn' hk'
      rw [show fr_impl_Shape_below_vi_8 ns [] i cs cs.length j = fr_impl_Shape_below_vi_8 ns (markK bs (cs.take j)) i cs cs.length j from rfl, show hp_impl_Shape_below_vi_8 ns (markK bs (cs.take j)) 0 [] 0 0 = hp_impl_Shape_below_vi_8 ns (markK bs (cs.take j)) i cs cs.length j from rfl, r_impl_Shape_below_vi_8 ns (markK bs (cs.take j)) i cs cs.length j Kn Kn' K]
      by_cases hjl : j < cs.length
      · have cr := b3 _ (List.getElem_mem hjl)
        have hgc := get_lt (show (cs[j]'hjl).toNat < (markK bs (cs.take j)).length by rw [mlen]; omega)
        simp only [d_lt hjl, d_0, cond_true, Int.toNat_natCast, get_lt hjl, d_t cr.1, blt_t (show (cs[j]'hjl).toNat < (markK bs (cs.take j)).length by rw [mlen]; omega), Bool.and_self, hgc]
        rw [i64_of (n := (j : Int) + 1) (by omega) (by omega)]
        have next' := hk' (j + 1) hjl (by omega)
        rw [take_one hjl] at next'
        unfold markK at next' ⊢
        rw [List.foldl_append] at next'
        exact next'
      · have : j = cs.length := by omega
        subst this
        rw [List.take_length, d_nlt hjl, hw]
        exact hk (i, (i : Int) - 1, markK bs cs) ⟨by simp only; omega, rfl, by simp only; rw [markK_len]; exact hbl, hgo⟩ (Nat.lt_succ_self i)

end Go.Proofs.Ytfhpmcdbfebflaa

/- Parts of shapes: walks. -/
set_option linter.unusedVariables false
set_option linter.unusedSimpArgs false
set_option maxRecDepth 100000
namespace Go.Proofs.Ytfhpmcdbfebflaa
open Go.Ev Go.Ev.Fl

noncomputable def gp_slices_Clone__float32 : List (List (Option Ty)) := List.map giveR [.cell (.own (tF))]
noncomputable def c_slices_Clone__float32 : Ctx := mkC Try.prog tyT [] [] [] 8 (fun _ => none) 0
theorem w_slices_Clone__float32 (x : (tF).den) (xs : List (tF).den) (K : V → Heap → Prop) : wpFnG gp_slices_Clone__float32 c_slices_Clone__float32 Try.f167 [.vec (tF) (x :: xs)] [] K =
 cond (decide (((0 : Nat) + List.length (x :: xs)) * (4 : Nat) ≤ (140737488355328 : Nat)))
 (K (.obj 0 0) [(.sl 0 (.float .f32) ([] ++ x :: xs))])
 (False) := by kernel_rfl
theorem w2_slices_Clone__float32 (b : Bool) (K : V → Heap → Prop) : wpFnG gp_slices_Clone__float32 c_slices_Clone__float32 Try.f167 [.empty b false] [] K =
  cond (b)
    (K (.obj 0 0) [(.sl 0 (.float .f32) ([]))])
    (K (.obj 0 0) [(.sl 0 (.float .f32) ([] ++ []))]) := by kernel_rfl
noncomputable def s_slices_Clone__float32 : Sm := semV [.cell (.slice (tF))] [.cell (.own (tF))] (fun x => decide (x.1.length ≤ 1048576)) fun x => (x.1, ())
theorem ok_slices_Clone__float32 : FnOkL Try.prog 167 s_slices_Clone__float32 := fnOkO_clone (fnOkO_runG (C := c_slices_Clone__float32) gp_slices_Clone__float32 rfl mixed .nil .nil .nil Try.func167 (by kernel_rfl)) 1048576
  (fun x xs K hl h => by
    rw [w_slices_Clone__float32 x xs K, d_t (by rw [List.length_cons]; omega)]
    exact h)
  (fun b K h => by
    rw [w2_slices_Clone__float32 b K]
    cases b <;> exact h)

noncomputable def c_impl_cloneNode : Ctx := mkC Try.prog tyT [] [] [(167, s_slices_Clone__float32)] 8 (fun _ => none) 0
noncomputable def gp_impl_cloneNode : List (List (Option Ty)) := List.map giveR [.agg [.imm tI, .imm tI, .imm tI, .own tF]]
theorem w_impl_cloneNode (k a b : Int) (xs : List Nat) (K : V → Heap → Prop) : wpFnG gp_impl_cloneNode c_impl_cloneNode Try.f141 (encAs [.agg tN] ((k, a, b, xs), ())) [] K =
 cond (decide (List.length xs ≤ 1048576))
 (K (.agg [(.int .i64 (k)), (.int .i64 (a)), (.int .i64 (b)), (.obj 0 0)]) [(.sl 0 (.float .f32) (xs))])
 (False) := by kernel_rfl
noncomputable def s_impl_cloneNode : Sm := semV [.agg tN] [.agg [.imm tI, .imm tI, .imm tI, .own tF]] (fun x => match x with | ((k, a, b, xs), _) => decide (xs.length ≤ 1048576)) fun x => match x with | ((k, a, b, xs), _) => ((k, a, b, xs, ()), ())
theorem ok_impl_cloneNode : FnOkL Try.prog 141 s_impl_cloneNode := fnOkO_give (fnOkO_runG (C := c_impl_cloneNode) gp_impl_cloneNode rfl mixed .nil .nil (.cons ok_slices_Clone__float32 .nil) Try.func141 (by kernel_rfl)) rfl fun (x : (((Int) × (Int) × (Int) × (List Nat)) × Unit)) wf hg K h => by
  obtain ⟨⟨k, a, b, xs⟩, ⟨⟩⟩ := x
  replace hg : (decide (xs.length ≤ 1048576)) = true := hg
  replace h : K (tup (valRs [.agg [.imm tI, .imm tI, .imm tI, .own tF]] (((k, a, b, xs, ()), ())) 0)) (thRs [.agg [.imm tI, .imm tI, .imm tI, .own tF]] (((k, a, b, xs, ()), ()))) := h
  rw [w_impl_cloneNode k a b xs K]
  rw [hg]; exact h
noncomputable def s_impl_cloneNode_vv : Sm := semG [.agg tN] (fun x => match x with | ((k, a, b, xs), _) => decide (xs.length ≤ 1048576)) fun x => tup (vecRs [.agg [.imm tI, .imm tI, .imm tI, .own tF]] (match x with | ((k, a, b, xs), _) => ((k, a, b, xs, ()), ())))
theorem ok_impl_cloneNode_vv : FnOk Try.prog 141 s_impl_cloneNode_vv := fnOk_of_give ok_impl_cloneNode.1

def keepN (pl : List Int) (n : NodeD) : NodeD := (n.1, (bif !inR n.1 0 4 then dI pl n.2.1 else n.2.1), (bif inR n.1 5 8 then dI pl n.2.2.1 else n.2.2.1), n.2.2.2)
abbrev KpD := List Int × ShapeD
def kpStep (ns : ShapeD) (bs : List Bool) (i : Nat) (q : KpD) : KpD := bif (bs[i]?).getD false then (q.1.set i q.2.length, q.2 ++ [keepN (q.1.set i q.2.length) (nodeAt ns i)]) else q
def kpGo (ns : ShapeD) (bs : List Bool) : Nat → KpD
  | 0 => (List.replicate ns.length 0, [])
  | i + 1 => kpStep ns bs i (kpGo ns bs i)
def keptV (ns : ShapeD) (bs : List Bool) : ShapeD := (kpGo ns bs ns.length).2
theorem kp_len (ns : ShapeD) (bs : List Bool) (i : Nat) : (kpGo ns bs i).1.length = ns.length ∧ (kpGo ns bs i).2.length ≤ i := by
  induction i with
  | zero => exact ⟨List.length_replicate, Nat.le_refl _⟩
  | succ i ih =>
    unfold kpGo kpStep
    cases (bs[i]?).getD false with
    | true => simp only [cond_true, List.length_set, List.length_append, List.length_singleton]; omega
    | false => simp only [cond_false]; omega
theorem kidsC0 {k : Int} (h : isK k = true) : decide (kindC k > 0) = !inR k 0 4 := by
  rcases kinds h with r | r | r | r | r | r | r | r | r | r | r | r | r | r | r | r | r <;> subst r <;> decide
theorem kidsC1 {k : Int} (h : isK k = true) : decide (kindC k > 1) = inR k 5 8 := by
  rcases kinds h with r | r | r | r | r | r | r | r | r | r | r | r | r | r | r | r | r <;> subst r <;> decide

def kpH (q : KpD) : Heap := match q.2 with
  | [] => [.box [.nils], .sl 0 tI q.1, .box [.nils]]
  | _ :: _ => [.box [.nils], .sl 0 tI q.1, .box [.dob 3 0], .dp 0 0 tN q.2]
theorem kpH_nil (pl : List Int) : kpH (pl, []) = [.box [.nils], .sl 0 tI pl, .box [.nils]] := rfl
theorem kpH_app (pl : List Int) (out : ShapeD) (x : NodeD) : kpH (pl, out ++ [x]) = [.box [.nils], .sl 0 tI pl, .box [.dob 3 0], .dp 0 0 tN (out ++ [x])] := by
  cases out <;> rfl

noncomputable def a_impl_Shape_kept_vi : Nat → Option Ann := fun n => bif Nat.beq n 3 then some ⟨[0,1,2,6,7,8,24,25],0,true⟩ else none
noncomputable def c_impl_Shape_kept_vi : Ctx := mkC Try.prog tyT [(98, s_impl_ruleOf), (89, s_impl_itself)] [] [(141, s_impl_cloneNode)] 83 a_impl_Shape_kept_vi 0 false [] true
noncomputable def gp_impl_Shape_kept_vi : List (List (Option Ty)) := List.map giveR [.agg [.deep tN]]
noncomputable def fr_impl_Shape_kept_vi_3 (ns : ShapeD) (bs : List Bool) (pl : List Int) (out : ShapeD) (n i m : Int) : Fr := [(0, .ref [.vec tN ns] 0), (1, .vec .bool bs), (2, .fn 89 []), (6, .ptr 0 0), (7, .obj 1 0), (8, .ptr 2 0), (24, .int .i64 n), (25, .int .i64 i)]
noncomputable def hp_impl_Shape_kept_vi_3 (ns : ShapeD) (bs : List Bool) (pl : List Int) (out : ShapeD) (n i m : Int) : Heap := (match m with | 0 => [.box [.nils], .sl 0 tI pl, .box [.nils]] | _ => [.box [.nils], .sl 0 tI pl, .box [.dob 3 0], .dp 0 0 tN out])
theorem r_impl_Shape_kept_vi_3_0 (ns : ShapeD) (bs : List Bool) (pl : List Int) (out : ShapeD) (n i : Int) (Kn : Fr → Heap → Prop) (K : V → Heap → Prop) : round c_impl_Shape_kept_vi ⟨[0,1,2,6,7,8,24,25],0,true⟩ (lb c_impl_Shape_kept_vi 3 Try.f87) (fr_impl_Shape_kept_vi_3 ns bs pl out n i (0 : Int)) (hp_impl_Shape_kept_vi_3 ns bs pl out n i (0 : Int)) Kn (lkG gp_impl_Shape_kept_vi c_impl_Shape_kept_vi 3 Try.f87 [] K) =
  cond (decide (i < n))
    (cond (decide (0 ≤ i))
      ((match bs[Int.toNat i]? with
        | some y0 => cond (!y0)
          (Kn [(0, (.ref [(.vec tN (ns))] 0)), (1, (.vec .bool (bs))), (2, (.fn 89 [])), (6, (.ptr 0 0)), (7, (.obj 1 0)), (8, (.ptr 2 0)), (24, (.int .i64 (n))), (25, (.int .i64 (IntKind.wrap IntKind.i64 (i + 1))))] [(.box [.nils]), (.sl 0 (.int .i64) (pl)), (.box [.nils])])
          (cond (decide (0 ≤ i) && Nat.blt (Int.toNat i) (List.length pl))
            ((match pl[Int.toNat i]? with
              | some x1 => cond (decide (0 ≤ i))
                ((match ns[Int.toNat i]? with
                  | some y2 => cond (decide (List.length (Prod.snd (Prod.snd (Prod.snd y2))) ≤ 1048576))
                    (cond (decide (kindC (Prod.fst y2) > 0))
                      (cond (decide (0 ≤ Prod.fst (Prod.snd y2)) && Nat.blt (Int.toNat (Prod.fst (Prod.snd y2))) (List.length (List.set pl (Int.toNat i) 0)))
                        ((match (List.set pl (Int.toNat i) 0)[Int.toNat (Prod.fst (Prod.snd y2))]? with
                          | some x3 => cond (decide (kindC (Prod.fst y2) > 1))
                            (cond (decide (0 ≤ Prod.fst (Prod.snd (Prod.snd y2))) && Nat.blt (Int.toNat (Prod.fst (Prod.snd (Prod.snd y2)))) (List.length (List.set pl (Int.toNat i) 0)))
                              ((match (List.set pl (Int.toNat i) 0)[Int.toNat (Prod.fst (Prod.snd (Prod.snd y2)))]? with
                                | some x4 => Kn [(0, (.ref [(.vec tN (ns))] 0)), (1, (.vec .bool (bs))), (2, (.fn 89 [])), (6, (.ptr 0 0)), (7, (.obj 1 0)), (8, (.ptr 2 0)), (24, (.int .i64 (n))), (25, (.int .i64 (IntKind.wrap IntKind.i64 (i + 1))))] [(.box [.nils]), (.sl 0 (.int .i64) (List.set pl (Int.toNat i) 0)), (.box [(.dob 3 0)]), (.dp 0 0 tN ([(Prod.fst y2, x3, x4, Prod.snd (Prod.snd (Prod.snd y2)))]))]
                                | none => False))
                              (False))
                            (Kn [(0, (.ref [(.vec tN (ns))] 0)), (1, (.vec .bool (bs))), (2, (.fn 89 [])), (6, (.ptr 0 0)), (7, (.obj 1 0)), (8, (.ptr 2 0)), (24, (.int .i64 (n))), (25, (.int .i64 (IntKind.wrap IntKind.i64 (i + 1))))] [(.box [.nils]), (.sl 0 (.int .i64) (List.set pl (Int.toNat i) 0)), (.box [(.dob 3 0)]), (.dp 0 0 tN ([(Prod.fst y2, x3, Prod.snd (Prod.snd y2))]))])
                          | none => False))
                        (False))
                      (cond (decide (kindC (Prod.fst y2) > 1))
                        (cond (decide (0 ≤ Prod.fst (Prod.snd (Prod.snd y2))) && Nat.blt (Int.toNat (Prod.fst (Prod.snd (Prod.snd y2)))) (List.length (List.set pl (Int.toNat i) 0)))
                          ((match (List.set pl (Int.toNat i) 0)[Int.toNat (Prod.fst (Prod.snd (Prod.snd y2)))]? with
                            | some x5 => Kn [(0, (.ref [(.vec tN (ns))] 0)), (1, (.vec .bool (bs))), (2, (.fn 89 [])), (6, (.ptr 0 0)), (7, (.obj 1 0)), (8, (.ptr 2 0)), (24, (.int .i64 (n))), (25, (.int .i64 (IntKind.wrap IntKind.i64 (i + 1))))] [(.box [.nils]), (.sl 0 (.int .i64) (List.set pl (Int.toNat i) 0)), (.box [(.dob 3 0)]), (.dp 0 0 tN ([(Prod.fst y2, Prod.fst (Prod.snd y2), x5, Prod.snd (Prod.snd (Prod.snd y2)))]))]
                            | none => False))
                          (False))
                        (Kn [(0, (.ref [(.vec tN (ns))] 0)), (1, (.vec .bool (bs))), (2, (.fn 89 [])), (6, (.ptr 0 0)), (7, (.obj 1 0)), (8, (.ptr 2 0)), (24, (.int .i64 (n))), (25, (.int .i64 (IntKind.wrap IntKind.i64 (i + 1))))] [(.box [.nils]), (.sl 0 (.int .i64) (List.set pl (Int.toNat i) 0)), (.box [(.dob 3 0)]), (.dp 0 0 tN ([y2]))])))
                    (False)
                  | none => False))
                (False)
              | none => False))
            (False))
        | none => False))
      (False))
    (K (.agg [(.dob 0 0)]) [(.dp 0 0 tN ([]))]) := by kernel_rfl
theorem r_impl_Shape_kept_vi_3_1 (ns : ShapeD) (bs : List Bool) (pl : List Int) (out : ShapeD) (n i : Int) (Kn : Fr → Heap → Prop) (K : V → Heap → Prop) : round c_impl_Shape_kept_vi ⟨[0,1,2,6,7,8,24,25],0,true⟩ (lb c_impl_Shape_kept_vi 3 Try.f87) (fr_impl_Shape_kept_vi_3 ns bs pl out n i (1 : Int)) (hp_impl_Shape_kept_vi_3 ns bs pl out n i (1 : Int)) Kn (lkG gp_impl_Shape_kept_vi c_impl_Shape_kept_vi 3 Try.f87 [] K) =
  cond (decide (i < n))
    (cond (decide (0 ≤ i))
      ((match bs[Int.toNat i]? with
        | some y0 => cond (!y0)
          (Kn [(0, (.ref [(.vec tN (ns))] 0)), (1, (.vec .bool (bs))), (2, (.fn 89 [])), (6, (.ptr 0 0)), (7, (.obj 1 0)), (8, (.ptr 2 0)), (24, (.int .i64 (n))), (25, (.int .i64 (IntKind.wrap IntKind.i64 (i + 1))))] [(.box [.nils]), (.sl 0 (.int .i64) (pl)), (.box [(.dob 3 0)]), (.dp 0 0 tN (out))])
          (cond (decide (0 ≤ i) && Nat.blt (Int.toNat i) (List.length pl))
            ((match pl[Int.toNat i]? with
              | some x1 => cond (decide (0 ≤ i))
                ((match ns[Int.toNat i]? with
                  | some y2 => cond (decide (List.length (Prod.snd (Prod.snd (Prod.snd y2))) ≤ 1048576))
                    (cond (decide (kindC (Prod.fst y2) > 0))
                      (cond (decide (0 ≤ Prod.fst (Prod.snd y2)) && Nat.blt (Int.toNat (Prod.fst (Prod.snd y2))) (List.length (List.set pl (Int.toNat i) (↑(List.length out) : Int))))
                        ((match (List.set pl (Int.toNat i) (↑(List.length out) : Int))[Int.toNat (Prod.fst (Prod.snd y2))]? with
                          | some x3 => cond (decide (kindC (Prod.fst y2) > 1))
                            (cond (decide (0 ≤ Prod.fst (Prod.snd (Prod.snd y2))) && Nat.blt (Int.toNat (Prod.fst (Prod.snd (Prod.snd y2)))) (List.length (List.set pl (Int.toNat i) (↑(List.length out) : Int))))
                              ((match (List.set pl (Int.toNat i) (↑(List.length out) : Int))[Int.toNat (Prod.fst (Prod.snd (Prod.snd y2)))]? with
                                | some x4 => cond (decide ((List.length out + 1) * 48 ≤ 140737488355328))
                                  (Kn [(0, (.ref [(.vec tN (ns))] 0)), (1, (.vec .bool (bs))), (2, (.fn 89 [])), (6, (.ptr 0 0)), (7, (.obj 1 0)), (8, (.ptr 2 0)), (24, (.int .i64 (n))), (25, (.int .i64 (IntKind.wrap IntKind.i64 (i + 1))))] [(.box [.nils]), (.sl 0 (.int .i64) (List.set pl (Int.toNat i) (↑(List.length out) : Int))), (.box [(.dob 3 0)]), (.dp 0 0 tN (out ++ [(Prod.fst y2, x3, x4, Prod.snd (Prod.snd (Prod.snd y2)))]))])
                                  (False)
                                | none => False))
                              (False))
                            (cond (decide ((List.length out + 1) * 48 ≤ 140737488355328))
                              (Kn [(0, (.ref [(.vec tN (ns))] 0)), (1, (.vec .bool (bs))), (2, (.fn 89 [])), (6, (.ptr 0 0)), (7, (.obj 1 0)), (8, (.ptr 2 0)), (24, (.int .i64 (n))), (25, (.int .i64 (IntKind.wrap IntKind.i64 (i + 1))))] [(.box [.nils]), (.sl 0 (.int .i64) (List.set pl (Int.toNat i) (↑(List.length out) : Int))), (.box [(.dob 3 0)]), (.dp 0 0 tN (out ++ [(Prod.fst y2, x3, Prod.snd (Prod.snd y2))]))])
                              (False))
                          | none => False))
                        (False))
                      (cond (decide (kindC (Prod.fst y2) > 1))
                        (cond (decide (0 ≤ Prod.fst (Prod.snd (Prod.snd y2))) && Nat.blt (Int.toNat (Prod.fst (Prod.snd (Prod.snd y2)))) (List.length (List.set pl (Int.toNat i) (↑(List.length out) : Int))))
                          ((match (List.set pl (Int.toNat i) (↑(List.length out) : Int))[Int.toNat (Prod.fst (Prod.snd (Prod.snd y2)))]? with
                            | some x5 => cond (decide ((List.length out + 1) * 48 ≤ 140737488355328))
                              (Kn [(0, (.ref [(.vec tN (ns))] 0)), (1, (.vec .bool (bs))), (2, (.fn 89 [])), (6, (.ptr 0 0)), (7, (.obj 1 0)), (8, (.ptr 2 0)), (24, (.int .i64 (n))), (25, (.int .i64 (IntKind.wrap IntKind.i64 (i + 1))))] [(.box [.nils]), (.sl 0 (.int .i64) (List.set pl (Int.toNat i) (↑(List.length out) : Int))), (.box [(.dob 3 0)]), (.dp 0 0 tN (out ++ [(Prod.fst y2, Prod.fst (Prod.snd y2), x5, Prod.snd (Prod.snd (Prod.snd y2)))]))])
                              (False)
                            | none => False))
                          (False))
                        (cond (decide ((List.length out + 1) * 48 ≤ 140737488355328))
                          (Kn [(0, (.ref [(.vec tN (ns))] 0)), (1, (.vec .bool (bs))), (2, (.fn 89 [])), (6, (.ptr 0 0)), (7, (.obj 1 0)), (8, (.ptr 2 0)), (24, (.int .i64 (n))), (25, (.int .i64 (IntKind.wrap IntKind.i64 (i + 1))))] [(.box [.nils]), (.sl 0 (.int .i64) (List.set pl (Int.toNat i) (↑(List.length out) : Int))), (.box [(.dob 3 0)]), (.dp 0 0 tN (out ++ [y2]))])
                          (False))))
                    (False)
                  | none => False))
                (False)
              | none => False))
            (False))
        | none => False))
      (False))
    (K (.agg [(.dob 0 0)]) [(.dp 0 0 tN (out))]) := by kernel_rfl
theorem w_impl_Shape_kept_vi (ns : ShapeD) (bs : List Bool) (K : V → Heap → Prop) : wpFnG gp_impl_Shape_kept_vi c_impl_Shape_kept_vi Try.f87 (encAs [.ref tS, .cell (.slice .bool), .fn 89] (ns, bs, (), ())) [] K =
 cond (decide (0 ≤ (↑(List.length ns) : Int)) && (decide ((↑(List.length ns) : Int) ≤ (↑(List.length ns) : Int)) && decide ((↑8 : Int) * (↑(List.length ns) : Int) ≤ 281474976710656)))
 (LoopE c_impl_Shape_kept_vi ⟨[0, 1, 2, 6, 7, 8, 24, 25], 0, true⟩ (lb c_impl_Shape_kept_vi 3 Try.f87) [(0, (.ref [(.vec tN (ns))] 0)), (1, (.vec .bool (bs))), (2, (.fn 89 [])), (6, (.ptr 0 0)), (7, (.obj 1 0)), (8, (.ptr 2 0)), (24, (.int .i64 ((↑(List.length ns) : Int)))), (25, (.int .i64 0))] [(.box [.nils]), (.sl 0 (.int .i64) (List.replicate (Int.toNat (↑(List.length ns) : Int)) 0)), (.box [.nils])] (lkG gp_impl_Shape_kept_vi c_impl_Shape_kept_vi 3 Try.f87 [] K))
 (False) := by kernel_rfl
noncomputable def s_impl_Shape_kept_vi : Sm := semV [.ref tS, .cell (.slice .bool), .fn 89] [.agg [.deep tN]] (fun x => match x with | (ns, bs, _, _) => nodesB ns && (Nat.beq bs.length ns.length && decide (ns.length ≤ 16))) fun x => match x with | (ns, bs, _, _) => ((keptV ns bs, ()), ())
theorem ok_impl_Shape_kept_vi : FnOkL Try.prog 87 s_impl_Shape_kept_vi := fnOkO_give (fnOkO_runG (C := c_impl_Shape_kept_vi) gp_impl_Shape_kept_vi rfl mixed (.cons ok_impl_ruleOf (.cons ok_impl_itself .nil)) .nil (.cons ok_impl_cloneNode .nil) Try.func87 (by kernel_rfl)) rfl fun (x : ((ShapeD) × (List Bool) × Unit × Unit)) wf hg K h => by
  obtain ⟨ns, bs, ⟨⟩, ⟨⟩⟩ := x
  replace hg : (nodesB ns && (Nat.beq bs.length ns.length && decide (ns.length ≤ 16))) = true := hg
  replace h : K (tup (valRs [.agg [.deep tN]] (((keptV ns bs, ()), ())) 0)) (thRs [.agg [.deep tN]] (((keptV ns bs, ()), ()))) := h
  rw [w_impl_Shape_kept_vi ns bs K]
  simp only [Bool.and_eq_true, decide_eq_true_eq, Nat.beq_eq] at hg
  obtain ⟨hn, hbl, hl16⟩ := hg
  have h8 : (8 : Int) * (ns.length : Int) ≤ 281474976710656 := by omega
  refine cond_yes (by simp only [Bool.and_eq_true, decide_eq_true_eq]; exact ⟨by omega, Int.le_refl _, h8⟩) ?_
  simp only [Int.toNat_natCast]
  unfold keptV at h
  refine loop_run (σ := Nat) (fun i => fr_impl_Shape_kept_vi_3 ns bs [] [] ns.length i 0) (fun i => kpH (kpGo ns bs i)) (fun i => i ≤ ns.length) (fun i => ns.length - i) ?_ 0 (Nat.zero_le _)
  intro i hi Kn hk
  obtain ⟨l1, l2⟩ := kp_len ns bs i
  have step : i < ns.length → kpGo ns bs (i + 1) = kpStep ns bs i (kpGo ns bs i) := fun _ => rfl
  have get2 : ∀ (pl : List Int) (c : Int), 0 ≤ c ∧ c < pl.length → pl[c.toNat]? = some (dI pl c) := by
    intro pl c hc
    unfold dI
    rw [get_lt (show c.toNat < pl.length by omega)]
    rfl
  by_cases hlt : i < ns.length
  · have next := hk (i + 1) hlt (by omega)
    rw [step hlt] at next
    obtain ⟨e, hb⟩ := nodes_at hn (i := (i : Int)) (by omega) (by omega)
    have hib : i < bs.length := by rw [hbl]; exact hlt
    have hbi := get_lt hib
    unfold kpStep at next
    rw [hbi] at next
    rw [Int.toNat_natCast] at e
    generalize kpGo ns bs i = q at *
    obtain ⟨pl, out⟩ := q
    generalize nodeAt ns (i : Int) = nd at *
    obtain ⟨k, a, c, xs⟩ := nd
    obtain ⟨b1, b2, b3⟩ := nodeB_parts hb
    have hk0 := nums_isK b1
    have hxl := nums_len b1
    have hkn : kindN k ≤ 4 := by rcases kinds hk0 with r | r | r | r | r | r | r | r | r | r | r | r | r | r | r | r | r <;> subst r <;> decide
    have hw : IntKind.i64.wrap ((i : Int) + 1) = (i : Int) + 1 := i64_of (by omega) (by omega)
    simp only at l1 l2 next ⊢
    cases out with
    | nil =>
      rw [kpH_nil]
      refine Eq.mpr (r_impl_Shape_kept_vi_3_0 ns bs pl [] ns.length i Kn K) ?_
      simp only [d_lt hlt, d_0, Int.toNat_natCast, cond_true, hbi, e, hw, get_lt (show i < pl.length by omega), blt_t (show i < pl.length by omega), Bool.and_self, List.length_set, d_t (show xs.length ≤ 1048576 by omega), kidsC0 hk0, kidsC1 hk0]
      cases hx : bs[i]'hib with
      | false =>
        rw [hx] at next
        exact next
      | true =>
        rw [hx] at next
        simp only [Option.getD_some, cond_true] at next
        simp only [Bool.not_true, cond_false]
        have gs := get2 (pl.set i 0)
        rw [List.length_set] at gs
        unfold keepN at next
        rcases kind_cases a c hk0 with ⟨q1, q2, q3⟩ | ⟨q1, q2, q3⟩ | ⟨q1, q2, q3⟩ <;> rw [q3] at b3 <;> simp only [q1, q2, Bool.not_true, Bool.not_false, cond_true, cond_false, List.nil_append] at next ⊢
        · exact next
        · have k1 := b3 a (by simp)
          simp only [d_t k1.1, blt_t (show a.toNat < pl.length by omega), Bool.and_self, cond_true, gs a ⟨k1.1, by omega⟩]
          exact next
        · have k1 := b3 a (by simp)
          have k2 := b3 c (by simp)
          simp only [d_t k1.1, blt_t (show a.toNat < pl.length by omega), Bool.and_self, cond_true, gs a ⟨k1.1, by omega⟩, d_t k2.1, blt_t (show c.toNat < pl.length by omega), gs c ⟨k2.1, by omega⟩]
          exact next
    | cons o os =>
      refine Eq.mpr (r_impl_Shape_kept_vi_3_1 ns bs pl (o :: os) ns.length i Kn K) ?_
      generalize hout : o :: os = out at *
      simp only [d_lt hlt, d_0, Int.toNat_natCast, cond_true, hbi, e, hw, get_lt (show i < pl.length by omega), blt_t (show i < pl.length by omega), Bool.and_self, List.length_set, d_t (show xs.length ≤ 1048576 by omega), kidsC0 hk0, kidsC1 hk0, d_t (show (out.length + 1) * 48 ≤ 140737488355328 by omega)]
      cases hx : bs[i]'hib with
      | false =>
        rw [hx] at next
        simp only [Option.getD_some, cond_false] at next
        rw [← hout] at next ⊢
        exact next
      | true =>
        rw [hx] at next
        simp only [Option.getD_some, cond_true] at next
        simp only [Bool.not_true, cond_false]
        have gs := get2 (pl.set i (out.length : Int))
        rw [List.length_set] at gs
        rw [kpH_app] at next
        have next2 := next
        unfold keepN at next2
        clear next
        rcases kind_cases a c hk0 with ⟨q1, q2, q3⟩ | ⟨q1, q2, q3⟩ | ⟨q1, q2, q3⟩ <;> rw [q3] at b3 <;> simp only [q1, q2, Bool.not_true, Bool.not_false, cond_true, cond_false] at next2 ⊢
        · exact next2
        · have k1 := b3 a (by simp)
          simp only [d_t k1.1, blt_t (show a.toNat < pl.length by omega), Bool.and_self, cond_true, gs a ⟨k1.1, by omega⟩]
          exact next2
        · have k1 := b3 a (by simp)
          have k2 := b3 c (by simp)
          simp only [d_t k1.1, blt_t (show a.toNat < pl.length by omega), Bool.and_self, cond_true, gs a ⟨k1.1, by omega⟩, d_t k2.1, blt_t (show c.toNat < pl.length by omega), gs c ⟨k2.1, by omega⟩]
          exact next2
  · have : i = ns.length := by omega
    subst this
    generalize kpGo ns bs ns.length = q at *
    obtain ⟨pl, out⟩ := q
    simp only at h ⊢
    cases out with
    | nil =>
      refine Eq.mpr (r_impl_Shape_kept_vi_3_0 ns bs pl [] ns.length ns.length Kn K) ?_
      rw [d_nlt hlt]
      exact h
    | cons o os =>
      refine Eq.mpr (r_impl_Shape_kept_vi_3_1 ns bs pl (o :: os) ns.length ns.length Kn K) ?_
      rw [d_nlt hlt]
      exact h

theorem belGo_len (ns : ShapeD) : ∀ (i : Nat) (bs : List Bool), (belGo ns i bs).length = bs.length
  | 0, _ => rfl
  | i + 1, bs => by
    have hs : belGo ns (i + 1) bs = belGo ns i (bif (bs[i]?).getD false then markK bs (kidsN (nodeAt ns i)) else bs) := rfl
    rw [hs, belGo_len ns i]
    cases (bs[i]?).getD false with
    | true => exact markK_len _ _
    | false => rfl
theorem belV_len (ns : ShapeD) (node : Int) : (belV ns node).length = ns.length := by
  unfold belV
  rw [belGo_len, List.length_set, List.length_replicate]
def partV (ns : ShapeD) (node : Int) : ShapeD := keptV ns (belV ns node)

noncomputable def c_impl_PartOf_vg : Ctx := mkC Try.prog tyT [(33, s_impl_ValidShape), (84, s_impl_Shape_last), (79, s_impl_in)] [] [(88, s_impl_Shape_below_vi), (87, s_impl_Shape_kept_vi)] 19 (fun _ => none) 0 false [] true
noncomputable def gp_impl_PartOf_vg : List (List (Option Ty)) := List.map giveR [.agg [.deep tN], .cell (.imm .bool)]
theorem w_impl_PartOf_vg (ns : ShapeD) (node : Int) (K : V → Heap → Prop) : wpFnG gp_impl_PartOf_vg c_impl_PartOf_vg Try.f30 (encAs [.agg tS, .cell tI] (ns, node, ())) [] K =
 cond (!validS ns)
 (K (.tuple [(.agg [(.dob 0 0)]), (.bool false)]) [(.dp 0 0 tN ([]))])
 (cond (!inR node 0 (IntKind.wrap IntKind.i64 ((↑(List.length ns) : Int) - 1)))
 (K (.tuple [(.agg [(.dob 0 0)]), (.bool false)]) [(.dp 0 0 tN ([]))])
 (cond (nodesB ns && (inR node 0 ((↑(List.length ns) : Int) - 1) && decide (List.length ns ≤ 16)))
 (cond (nodesB ns && (Nat.beq (List.length (belV ns node)) (List.length ns) && decide (List.length ns ≤ 16)))
 (K (.tuple [(.agg [(.dob 0 0)]), (.bool true)]) [(.dp 0 0 tN (keptV ns (belV ns node)))])
 (False))
 (False))) := by kernel_rfl
noncomputable def s_impl_PartOf_vg : Sm := semV [.agg tS, .cell tI] [.agg [.deep tN], .cell (.imm .bool)] (fun x => match x with | (ns, node, _) => validS ns && inR node 0 (ns.length - 1)) fun x => match x with | (ns, node, _) => ((partV ns node, ()), true, ())
theorem ok_impl_PartOf_vg : FnOkL Try.prog 30 s_impl_PartOf_vg := fnOkO_give (fnOkO_runG (C := c_impl_PartOf_vg) gp_impl_PartOf_vg rfl mixed (.cons ok_impl_ValidShape (.cons ok_impl_Shape_last (.cons ok_impl_in .nil))) .nil (.cons ok_impl_Shape_below_vi (.cons ok_impl_Shape_kept_vi .nil)) Try.func30 (by kernel_rfl)) rfl fun (x : ((ShapeD) × (Int) × Unit)) wf hg K h => by
  obtain ⟨ns, node, ⟨⟩⟩ := x
  replace hg : (validS ns && inR node 0 (ns.length - 1)) = true := hg
  replace h : K (tup (valRs [.agg [.deep tN], .cell (.imm .bool)] (((partV ns node, ()), true, ())) 0)) (thRs [.agg [.deep tN], .cell (.imm .bool)] (((partV ns node, ()), true, ()))) := h
  rw [w_impl_PartOf_vg ns node K]
  simp only [Bool.and_eq_true] at hg
  obtain ⟨h0, h1⟩ := hg
  obtain ⟨l1, l2⟩ := valid_leng h0
  have hn := valid_nodes h0
  have hw : IntKind.i64.wrap ((ns.length : Int) - 1) = (ns.length : Int) - 1 := i64_of (by omega) (by omega)
  have hb : Nat.beq (belV ns node).length ns.length = true := by rw [belV_len]; exact Nat.beq_refl _
  rw [h0, hw, h1, hn, d_t l2, hb]
  exact h

end Go.Proofs.Ytfhpmcdbfebflaa

/- Shapes that are joined and wrapped: walks of the program's functions. -/
set_option linter.unusedVariables false
set_option linter.unusedSimpArgs false
set_option maxRecDepth 100000
namespace Go.Proofs.Ytfhpmcdbfebflaa
open Go.Ev Go.Ev.Fl

theorem cond_intro {b : Bool} {P Q : Prop} (h : b = true) (hp : P) : cond b P Q := by rw [h]; exact hp
def putN1 (d : Int) (x : NodeD) : NodeD := (x.1, (bif !inR x.1 0 4 then IntKind.i64.wrap (x.2.1 + d) else x.2.1), (bif inR x.1 5 8 then IntKind.i64.wrap (x.2.2.1 + d) else x.2.2.1), x.2.2.2)

theorem fitS_len {s : ShapeD} (h : fitS s = true) : s.length ≤ 1048576 := by
  unfold fitS at h
  simp only [Bool.and_eq_true, decide_eq_true_eq] at h
  exact h.1
theorem fitS_at {s : ShapeD} (h : fitS s = true) {i : Nat} (hi : i < s.length) : (s[i]'hi).2.2.2.length ≤ 1048576 := by
  unfold fitS at h
  simp only [Bool.and_eq_true] at h
  have := List.all_eq_true.1 h.2 _ (List.getElem_mem hi)
  unfold fitN at this
  simpa using this
noncomputable def a_impl_cloneShape : Nat → Option Ann := fun n => bif Nat.beq n 3 then some ⟨[2,3,8,9,10],3,true⟩ else none
noncomputable def c_impl_cloneShape : Ctx := mkC Try.prog tyT [] [] [(141, s_impl_cloneNode)] 23 a_impl_cloneShape 0 false [] true
noncomputable def gp_impl_cloneShape : List (List (Option Ty)) := List.map giveR [.agg [.deep tN]]
noncomputable def fr_impl_cloneShape_3 (s zs : ShapeD) (n i m : Int) : Fr := [(2, .ptr 1 0), (3, .ptr 2 0), (8, .vec tN s), (9, .int .i64 n), (10, .int .i64 i)]
noncomputable def hp_impl_cloneShape_3 (s zs : ShapeD) (n i m : Int) : Heap := (match m with | 0 => [.box [.vec tN s], .box [.nils], .box [.nils]] | _ => [.box [.vec tN s], .box [.nils], .box [.dob 3 0], .dp 0 0 tN zs])
theorem r_impl_cloneShape_3_0 (s zs : ShapeD) (n i : Int) (Kn : Fr → Heap → Prop) (K : V → Heap → Prop) : round c_impl_cloneShape ⟨[2,3,8,9,10],3,true⟩ (lb c_impl_cloneShape 3 Try.f99) (fr_impl_cloneShape_3 s zs n i (0 : Int)) (hp_impl_cloneShape_3 s zs n i (0 : Int)) Kn (lkG gp_impl_cloneShape c_impl_cloneShape 3 Try.f99 [] K) =
  cond (decide (i < n))
    (cond (decide (0 ≤ i))
      ((match s[Int.toNat i]? with
        | some y0 => cond (decide (List.length (Prod.snd (Prod.snd (Prod.snd y0))) ≤ 1048576))
          (Kn [(2, (.ptr 1 0)), (3, (.ptr 2 0)), (8, (.vec tN (s))), (9, (.int .i64 (n))), (10, (.int .i64 (IntKind.wrap IntKind.i64 (i + 1))))] [(.box [(.vec tN (s))]), (.box [.nils]), (.box [(.dob 3 0)]), (.dp 0 0 tN ([y0]))])
          (False)
        | none => False))
      (False))
    (K (.agg [(.dob 0 0)]) [(.dp 0 0 tN ([]))]) := by kernel_rfl
theorem r_impl_cloneShape_3_1 (s zs : ShapeD) (n i : Int) (Kn : Fr → Heap → Prop) (K : V → Heap → Prop) : round c_impl_cloneShape ⟨[2,3,8,9,10],3,true⟩ (lb c_impl_cloneShape 3 Try.f99) (fr_impl_cloneShape_3 s zs n i (1 : Int)) (hp_impl_cloneShape_3 s zs n i (1 : Int)) Kn (lkG gp_impl_cloneShape c_impl_cloneShape 3 Try.f99 [] K) =
  cond (decide (i < n))
    (cond (decide (0 ≤ i))
      ((match s[Int.toNat i]? with
        | some y0 => cond (decide (List.length (Prod.snd (Prod.snd (Prod.snd y0))) ≤ 1048576))
          (cond (decide ((List.length zs + 1) * 48 ≤ 140737488355328))
            (Kn [(2, (.ptr 1 0)), (3, (.ptr 2 0)), (8, (.vec tN (s))), (9, (.int .i64 (n))), (10, (.int .i64 (IntKind.wrap IntKind.i64 (i + 1))))] [(.box [(.vec tN (s))]), (.box [.nils]), (.box [(.dob 3 0)]), (.dp 0 0 tN (zs ++ [y0]))])
            (False))
          (False)
        | none => False))
      (False))
    (K (.agg [(.dob 0 0)]) [(.dp 0 0 tN (zs))]) := by kernel_rfl
theorem w_impl_cloneShape (s : ShapeD) (K : V → Heap → Prop) : wpFnG gp_impl_cloneShape c_impl_cloneShape Try.f99 (encAs [.agg tS] (s, ())) [] K =
 LoopE c_impl_cloneShape ⟨[2, 3, 8, 9, 10], 3, true⟩ (lb c_impl_cloneShape 3 Try.f99) [(2, (.ptr 1 0)), (3, (.ptr 2 0)), (8, (.vec tN (s))), (9, (.int .i64 ((↑(List.length s) : Int)))), (10, (.int .i64 0))] [(.box [(.vec tN (s))]), (.box [.nils]), (.box [.nils])] (lkG gp_impl_cloneShape c_impl_cloneShape 3 Try.f99 [] K) := by kernel_rfl
noncomputable def s_impl_cloneShape : Sm := semV [.agg tS] [.agg [.deep tN]] (fun x => match x with | (s, _) => fitS s) fun x => match x with | (s, _) => ((s, ()), ())
theorem ok_impl_cloneShape : FnOkL Try.prog 99 s_impl_cloneShape := fnOkO_give (fnOkO_runG (C := c_impl_cloneShape) gp_impl_cloneShape rfl mixed .nil .nil (.cons ok_impl_cloneNode .nil) Try.func99 (by kernel_rfl)) rfl fun (x : ((ShapeD) × Unit)) wf hg K h => by
  obtain ⟨s, ⟨⟩⟩ := x
  replace hg : (fitS s) = true := hg
  replace h : K (tup (valRs [.agg [.deep tN]] (((s, ()), ())) 0)) (thRs [.agg [.deep tN]] (((s, ()), ()))) := h
  rw [w_impl_cloneShape s K]
  have g3 := fitS_len hg
  refine loop_run (σ := Nat) (fun i => fr_impl_cloneShape_3 s [] s.length i 0) (fun i => match i with | 0 => hp_impl_cloneShape_3 s [] s.length 0 0 | j + 1 => hp_impl_cloneShape_3 s (s.take (j + 1)) s.length 0 1) (fun i => i ≤ s.length) (fun i => s.length - i) ?_ 0 (Nat.zero_le _)
  intro i hi Kn hk
  cases i with
  | zero =>
    refine Eq.mpr (r_impl_cloneShape_3_0 s [] s.length ((0 : Nat) : Int) Kn K) ?_
    by_cases hlt : 0 < s.length
    · have hf := fitS_at hg hlt
      simp only [d_lt hlt, d_0, cond_true, Int.toNat_natCast, get_lt hlt, d_t hf]
      rw [i64_of (show -9223372036854775808 ≤ ((0 : Nat) : Int) + 1 by omega) (by omega)]
      have := hk 1 hlt (by omega)
      simp only [take_one hlt, List.take_zero, List.nil_append] at this
      exact this
    · have : s = [] := List.eq_nil_of_length_eq_zero (by omega)
      subst this
      exact h
  | succ j =>
    refine Eq.mpr (r_impl_cloneShape_3_1 s (s.take (j + 1)) s.length ((j + 1 : Nat) : Int) Kn K) ?_
    by_cases hlt : j + 1 < s.length
    · have hf := fitS_at hg hlt
      have hl : (s.take (j + 1)).length = j + 1 := by rw [List.length_take]; omega
      simp only [d_lt hlt, d_0, cond_true, Int.toNat_natCast, get_lt hlt, d_t hf, hl, d_t (show (j + 1 + 1) * 48 ≤ 140737488355328 by omega)]
      rw [i64_of (show -9223372036854775808 ≤ ((j + 1 : Nat) : Int) + 1 by omega) (by omega)]
      have := hk (j + 1 + 1) hlt (by omega)
      simp only [take_one hlt] at this
      exact this
    · have : j + 1 = s.length := by omega
      simp only [d_nlt hlt, cond_false]
      rw [this, List.take_length]
      exact h

theorem valid_len {s : ShapeD} (h : validS s = true) : 1 ≤ s.length ∧ s.length ≤ 16 := by
  unfold validS at h
  simp only [Bool.and_eq_true] at h
  have := inR_iff.1 h.1
  omega
theorem kindN_le (k : Int) : kindN k ≤ 4 := by
  cases h : isK k with
  | false => unfold kindN; rw [kindV_no h]; decide
  | true =>
    rcases kinds h with r | r | r | r | r | r | r | r | r | r | r | r | r | r | r | r | r <;> subst r <;> decide
theorem valid_node {s : ShapeD} (h : validS s = true) {x : NodeD} (hx : x ∈ s) : x.2.2.2.length ≤ 4 := by
  obtain ⟨i, hi, rfl⟩ := List.mem_iff_getElem.1 hx
  cases hn : nodeB i (s[i]'hi) with
  | false => rw [valid_no hi hn] at h; cases h
  | true =>
    unfold nodeB numsB at hn
    simp only [Bool.and_eq_true, beq_iff_eq] at hn
    have := kindN_le (s[i]'hi).1
    omega
theorem valid_fit {s : ShapeD} (h : validS s = true) : fitS s = true := by
  unfold fitS fitN
  simp only [Bool.and_eq_true, decide_eq_true_eq, List.all_eq_true]
  have := valid_len h
  exact ⟨by omega, fun x hx => by have := valid_node h hx; omega⟩
theorem valid_wf {s : ShapeD} (h : validS s = true) {k : Int} {x : NodeD} (hx : x ∈ s) : isK x.1 = true := by
  obtain ⟨i, hi, rfl⟩ := List.mem_iff_getElem.1 hx
  cases hn : nodeB i (s[i]'hi) with
  | false => rw [valid_no hi hn] at h; cases h
  | true => exact nodeB_isK hn

def wrapS (k : Int) (s : ShapeD) (ax : Int) (xs : List Nat) : ShapeD := s ++ [(k, (s.length : Int) - 1, ax, xs)]
def wrapOk (k : Int) (s : ShapeD) (ax : Int) (xs : List Nat) : Bool := validS s && (inR k 9 16 && validS (wrapS k s ax xs))
def wrapR (k : Int) (s : ShapeD) (ax : Int) (xs : List Nat) : ShapeD := bif wrapOk k s ax xs then wrapS k s ax xs else []
def joinS (k : Int) (u v : ShapeD) (xs : List Nat) : ShapeD := u ++ v.map (putN1 u.length) ++ [(k, (u.length : Int) - 1, (u.length : Int) + v.length - 1, xs)]
def joinOk (k : Int) (u v : ShapeD) (xs : List Nat) : Bool := validS u && (validS v && (inR k 5 8 && (!decide ((u.length : Int) + v.length ≥ 16) && validS (joinS k u v xs))))
def joinR (k : Int) (u v : ShapeD) (xs : List Nat) : ShapeD := bif joinOk k u v xs then joinS k u v xs else []

def unionGo : ShapeD → List ShapeD → Option ShapeD
  | u, [] => some u
  | u, v :: r => bif joinOk 5 u v [] then unionGo (joinS 5 u v []) r else none
def unionO : List ShapeD → Option ShapeD
  | [] => none
  | s :: r => bif inR ((s :: r).length : Int) 1 16 && validS s then unionGo s r else none

theorem valid_ne {s : ShapeD} (h : validS s = true) : (!s.isEmpty) = true := by
  have := valid_len h
  cases s with
  | nil => simp at this
  | cons _ _ => rfl
theorem inR_no {k lo hi a c : Int} (h : inR k a c = false) (h1 : a ≤ lo) (h2 : hi ≤ c) : inR k lo hi = false := by
  cases e : inR k lo hi with
  | false => rfl
  | true =>
    have := inR_iff.1 e
    have e2 : inR k a c = true := inR_iff.2 (by omega)
    rw [h] at e2; cases e2
theorem wrapK (k : Int) : (isK k && kindC k == 1) = inR k 9 16 := by
  cases h : isK k with
  | false => rw [Bool.false_and]; exact (inR_no h (by omega) (by omega)).symm
  | true => rcases kinds h with r | r | r | r | r | r | r | r | r | r | r | r | r | r | r | r | r <;> subst r <;> decide
theorem joinK (k : Int) : (isK k && kindC k == 2) = inR k 5 8 := by
  cases h : isK k with
  | false => rw [Bool.false_and]; exact (inR_no h (by omega) (by omega)).symm
  | true => rcases kinds h with r | r | r | r | r | r | r | r | r | r | r | r | r | r | r | r | r <;> subst r <;> decide
theorem kindC0 {k : Int} (h : isK k = true) : decide (kindC k > 0) = !inR k 0 4 := by
  rcases kinds h with r | r | r | r | r | r | r | r | r | r | r | r | r | r | r | r | r <;> subst r <;> decide
theorem kindC1 {k : Int} (h : isK k = true) : decide (kindC k > 1) = inR k 5 8 := by
  rcases kinds h with r | r | r | r | r | r | r | r | r | r | r | r | r | r | r | r | r <;> subst r <;> decide
theorem joinS_len (k : Int) (u v : ShapeD) (xs : List Nat) : (joinS k u v xs).length = u.length + v.length + 1 := by
  unfold joinS
  simp only [List.length_append, List.length_map, List.length_cons, List.length_nil]
theorem joinBig (k : Int) (u v : ShapeD) (xs : List Nat) : (!decide ((u.length : Int) + v.length ≥ 16) && validS (joinS k u v xs)) = validS (joinS k u v xs) := by
  cases h : validS (joinS k u v xs) with
  | false => rw [Bool.and_false]
  | true =>
    have := valid_len h
    rw [joinS_len] at this
    rw [d_f (show ¬ (u.length : Int) + v.length ≥ 16 by omega)]
    rfl

noncomputable def c_impl_told : Ctx := mkC Try.prog tyT [(33, s_impl_ValidShape)] [] [(99, s_impl_cloneShape)] 10 (fun _ => none) 0 false [] true
noncomputable def gp_impl_told : List (List (Option Ty)) := List.map giveR [.agg [.deep tN], .cell (.imm .bool)]
theorem w_impl_told (s : ShapeD) (K : V → Heap → Prop) : wpFnG gp_impl_told c_impl_told Try.f100 (encAs [.agg tS] (s, ())) [] K =
 cond (!validS s)
 (K (.tuple [(.agg [(.dob 0 0)]), (.bool false)]) [(.dp 0 0 tN ([]))])
 (cond (fitS s)
 (K (.tuple [(.agg [(.dob 0 0)]), (.bool true)]) [(.dp 0 0 tN (s))])
 (False)) := by kernel_rfl
noncomputable def s_impl_told : Sm := semV [.agg tS] [.agg [.deep tN], .cell (.imm .bool)] (fun x => match x with | (s, _) => true) fun x => match x with | (s, _) => (((bif validS s then s else []), ()), validS s, ())
theorem ok_impl_told : FnOkL Try.prog 100 s_impl_told := fnOkO_give (fnOkO_runG (C := c_impl_told) gp_impl_told rfl mixed (.cons ok_impl_ValidShape .nil) .nil (.cons ok_impl_cloneShape .nil) Try.func100 (by kernel_rfl)) rfl fun (x : ((ShapeD) × Unit)) wf hg K h => by
  obtain ⟨s, ⟨⟩⟩ := x
  replace h : K (tup (valRs [.agg [.deep tN], .cell (.imm .bool)] ((((bif validS s then s else []), ()), validS s, ())) 0)) (thRs [.agg [.deep tN], .cell (.imm .bool)] ((((bif validS s then s else []), ()), validS s, ()))) := h
  rw [w_impl_told s K]
  cases h1 : validS s with
  | false => simp only [h1, Bool.not_false, cond_true, cond_false] at h ⊢; exact h
  | true => simp only [h1, valid_fit h1, Bool.not_true, cond_true, cond_false] at h ⊢; exact h

noncomputable def a_impl_cloneShape_vs : Nat → Option Ann := fun n => bif Nat.beq n 3 then some ⟨[2,3,8,9,10],3,true⟩ else none
noncomputable def c_impl_cloneShape_vs : Ctx := mkC Try.prog tyT [(141, s_impl_cloneNode_vv)] [] [] 23 a_impl_cloneShape_vs 0
noncomputable def gp_impl_cloneShape_vs : List (List (Option Ty)) := List.map giveR [.agg [.own tN]]
noncomputable def fr_impl_cloneShape_vs_3 (s zs : ShapeD) (n i m : Int) : Fr := [(2, .ptr 1 0), (3, .ptr 2 0), (8, .vec tN s), (9, .int .i64 n), (10, .int .i64 i)]
noncomputable def hp_impl_cloneShape_vs_3 (s zs : ShapeD) (n i m : Int) : Heap := (match m with | 0 => [.box [.vec tN s], .box [.nils], .box [.nils]] | _ => [.box [.vec tN s], .box [.nils], .box [.obj 3 0], .sl 0 tN zs])
theorem r_impl_cloneShape_vs_3_0 (s zs : ShapeD) (n i : Int) (Kn : Fr → Heap → Prop) (K : V → Heap → Prop) : round c_impl_cloneShape_vs ⟨[2,3,8,9,10],3,true⟩ (lb c_impl_cloneShape_vs 3 Try.f99) (fr_impl_cloneShape_vs_3 s zs n i (0 : Int)) (hp_impl_cloneShape_vs_3 s zs n i (0 : Int)) Kn (lkG gp_impl_cloneShape_vs c_impl_cloneShape_vs 3 Try.f99 [] K) =
  cond (decide (i < n))
    (cond (decide (0 ≤ i))
      ((match s[Int.toNat i]? with
        | some y0 => cond (decide (List.length (Prod.snd (Prod.snd (Prod.snd y0))) ≤ 1048576))
          (Kn [(2, (.ptr 1 0)), (3, (.ptr 2 0)), (8, (.vec tN (s))), (9, (.int .i64 (n))), (10, (.int .i64 (IntKind.wrap IntKind.i64 (i + 1))))] [(.box [(.vec tN (s))]), (.box [.nils]), (.box [(.obj 3 0)]), (.sl 0 tN ([y0]))])
          (False)
        | none => False))
      (False))
    (K (.agg [(.obj 0 0)]) [(.sl 0 tN ([]))]) := by kernel_rfl
theorem r_impl_cloneShape_vs_3_1 (s zs : ShapeD) (n i : Int) (Kn : Fr → Heap → Prop) (K : V → Heap → Prop) : round c_impl_cloneShape_vs ⟨[2,3,8,9,10],3,true⟩ (lb c_impl_cloneShape_vs 3 Try.f99) (fr_impl_cloneShape_vs_3 s zs n i (1 : Int)) (hp_impl_cloneShape_vs_3 s zs n i (1 : Int)) Kn (lkG gp_impl_cloneShape_vs c_impl_cloneShape_vs 3 Try.f99 [] K) =
  cond (decide (i < n))
    (cond (decide (0 ≤ i))
      ((match s[Int.toNat i]? with
        | some y0 => cond (decide (List.length (Prod.snd (Prod.snd (Prod.snd y0))) ≤ 1048576))
          (cond (decide ((List.length zs + 1) * 48 ≤ 140737488355328))
            (Kn [(2, (.ptr 1 0)), (3, (.ptr 2 0)), (8, (.vec tN (s))), (9, (.int .i64 (n))), (10, (.int .i64 (IntKind.wrap IntKind.i64 (i + 1))))] [(.box [(.vec tN (s))]), (.box [.nils]), (.box [(.obj 3 0)]), (.sl 0 tN (zs ++ [y0]))])
            (False))
          (False)
        | none => False))
      (False))
    (K (.agg [(.obj 0 0)]) [(.sl 0 tN (zs))]) := by kernel_rfl
theorem w_impl_cloneShape_vs (s : ShapeD) (K : V → Heap → Prop) : wpFnG gp_impl_cloneShape_vs c_impl_cloneShape_vs Try.f99 (encAs [.agg tS] (s, ())) [] K =
 LoopE c_impl_cloneShape_vs ⟨[2, 3, 8, 9, 10], 3, true⟩ (lb c_impl_cloneShape_vs 3 Try.f99) [(2, (.ptr 1 0)), (3, (.ptr 2 0)), (8, (.vec tN (s))), (9, (.int .i64 ((↑(List.length s) : Int)))), (10, (.int .i64 0))] [(.box [(.vec tN (s))]), (.box [.nils]), (.box [.nils])] (lkG gp_impl_cloneShape_vs c_impl_cloneShape_vs 3 Try.f99 [] K) := by kernel_rfl
noncomputable def s_impl_cloneShape_vs : Sm := semV [.agg tS] [.agg [.own tN]] (fun x => match x with | (s, _) => fitS s && !s.isEmpty) fun x => match x with | (s, _) => ((s, ()), ())
theorem ok_impl_cloneShape_vs : FnOkL Try.prog 99 s_impl_cloneShape_vs := fnOkO_give (fnOkO_runG (C := c_impl_cloneShape_vs) gp_impl_cloneShape_vs rfl mixed (.cons ok_impl_cloneNode_vv .nil) .nil .nil Try.func99 (by kernel_rfl)) rfl fun (x : ((ShapeD) × Unit)) wf hg K h => by
  obtain ⟨s, ⟨⟩⟩ := x
  replace hg : (fitS s && !s.isEmpty) = true := hg
  replace h : K (tup (valRs [.agg [.own tN]] (((s, ()), ())) 0)) (thRs [.agg [.own tN]] (((s, ()), ()))) := h
  rw [w_impl_cloneShape_vs s K]
  simp only [Bool.and_eq_true] at hg
  obtain ⟨hg, hne⟩ := hg
  have h0 : 0 < s.length := by cases s with | nil => cases hne | cons _ _ => simp
  have g3 := fitS_len hg
  refine loop_run (σ := Nat) (fun i => fr_impl_cloneShape_vs_3 s [] s.length i 0) (fun i => match i with | 0 => hp_impl_cloneShape_vs_3 s [] s.length 0 0 | j + 1 => hp_impl_cloneShape_vs_3 s (s.take (j + 1)) s.length 0 1) (fun i => i ≤ s.length) (fun i => s.length - i) ?_ 0 (Nat.zero_le _)
  intro i hi Kn hk
  cases i with
  | zero =>
    refine Eq.mpr (r_impl_cloneShape_vs_3_0 s [] s.length ((0 : Nat) : Int) Kn K) ?_
    have hf := fitS_at hg h0
    simp only [d_lt h0, d_0, cond_true, Int.toNat_natCast, get_lt h0, d_t hf]
    rw [i64_of (show -9223372036854775808 ≤ ((0 : Nat) : Int) + 1 by omega) (by omega)]
    have := hk 1 h0 (by omega)
    simp only [take_one h0, List.take_zero, List.nil_append] at this
    exact this
  | succ j =>
    refine Eq.mpr (r_impl_cloneShape_vs_3_1 s (s.take (j + 1)) s.length ((j + 1 : Nat) : Int) Kn K) ?_
    by_cases hlt : j + 1 < s.length
    · have hf := fitS_at hg hlt
      have hl : (s.take (j + 1)).length = j + 1 := by rw [List.length_take]; omega
      simp only [d_lt hlt, d_0, cond_true, Int.toNat_natCast, get_lt hlt, d_t hf, hl, d_t (show (j + 1 + 1) * 48 ≤ 140737488355328 by omega)]
      rw [i64_of (show -9223372036854775808 ≤ ((j + 1 : Nat) : Int) + 1 by omega) (by omega)]
      have := hk (j + 1 + 1) hlt (by omega)
      simp only [take_one hlt] at this
      exact this
    · have : j + 1 = s.length := by omega
      simp only [d_nlt hlt, cond_false]
      rw [this, List.take_length]
      exact h

noncomputable def c_impl_WrapShape_vg : Ctx := mkC Try.prog tyT [(98, s_impl_ruleOf), (33, s_impl_ValidShape), (84, s_impl_Shape_last)] [] [(99, s_impl_cloneShape_vs), (100, s_impl_told)] 47 (fun _ => none) 0 false [] false true
noncomputable def gp_impl_WrapShape_vg : List (List (Option Ty)) := List.map giveR [.agg [.deep tN], .cell (.imm .bool)]
theorem w_impl_WrapShape_vg (k : Int) (s : ShapeD) (ax : Int) (xs : List Nat) (K : V → Heap → Prop) : wpFnG gp_impl_WrapShape_vg c_impl_WrapShape_vg Try.f38 (encAs [.cell tI, .agg tS, .cell tI, .cell (.slice tF)] (k, s, ax, xs, ())) [] K =
 cond (!isK k)
 (K (.tuple [(.agg [(.dob 0 0)]), (.bool false)]) [(.dp 0 0 tN ([]))])
 (cond (kindC k != 1)
 (K (.tuple [(.agg [(.dob 0 0)]), (.bool false)]) [(.dp 0 0 tN ([]))])
 (cond (!validS s)
 (K (.tuple [(.agg [(.dob 0 0)]), (.bool false)]) [(.dp 0 0 tN ([]))])
 (cond (fitS s && !List.isEmpty s)
 (cond (decide ((List.length s + 1) * 48 ≤ 140737488355328))
 (K (.tuple [(.agg [(.dob 0 0)]), (.bool (validS (s ++ [(k, IntKind.wrap IntKind.i64 ((↑(List.length s) : Int) - (1 : Int)), ax, xs)])))]) [(.dp 0 0 tN (bif validS (s ++ [(k, IntKind.wrap IntKind.i64 ((↑(List.length s) : Int) - (1 : Int)), ax, xs)]) then s ++ [(k, IntKind.wrap IntKind.i64 ((↑(List.length s) : Int) - (1 : Int)), ax, xs)] else []))])
 (False))
 (False)))) := by kernel_rfl
noncomputable def s_impl_WrapShape_vg : Sm := semV [.cell tI, .agg tS, .cell tI, .cell (.slice tF)] [.agg [.deep tN], .cell (.imm .bool)] (fun x => match x with | (k, s, ax, xs, _) => decide (xs.length ≤ 1048576)) fun x => match x with | (k, s, ax, xs, _) => ((wrapR k s ax xs, ()), wrapOk k s ax xs, ())
theorem ok_impl_WrapShape_vg : FnOkL Try.prog 38 s_impl_WrapShape_vg := fnOkO_give (fnOkO_runG (C := c_impl_WrapShape_vg) gp_impl_WrapShape_vg rfl mixed (.cons ok_impl_ruleOf (.cons ok_impl_ValidShape (.cons ok_impl_Shape_last .nil))) .nil (.cons ok_impl_cloneShape_vs (.cons ok_impl_told .nil)) Try.func38 (by kernel_rfl)) rfl fun (x : ((Int) × (ShapeD) × (Int) × (List Nat) × Unit)) wf hg K h => by
  obtain ⟨k, s, ax, xs, ⟨⟩⟩ := x
  replace hg : (decide (xs.length ≤ 1048576)) = true := hg
  replace h : K (tup (valRs [.agg [.deep tN], .cell (.imm .bool)] (((wrapR k s ax xs, ()), wrapOk k s ax xs, ())) 0)) (thRs [.agg [.deep tN], .cell (.imm .bool)] (((wrapR k s ax xs, ()), wrapOk k s ax xs, ()))) := h
  rw [w_impl_WrapShape_vg k s ax xs K]
  have hg := of_decide_eq_true hg
  unfold wrapR at h
  cases hk : isK k with
  | false =>
    have e : inR k 9 16 = false := by rw [← wrapK, hk, Bool.false_and]
    simp only [wrapOk, e, Bool.false_and, Bool.and_false, cond_false] at h
    exact h
  | true =>
  cases hc : kindC k == 1 with
  | false =>
    have e : inR k 9 16 = false := by rw [← wrapK, hk, hc, Bool.true_and]
    simp only [wrapOk, e, Bool.false_and, Bool.and_false, cond_false] at h
    simp only [Bool.not_true, cond_false, bne, hc, Bool.not_false, cond_true]
    exact h
  | true =>
  have e : inR k 9 16 = true := by rw [← wrapK, hk, hc, Bool.true_and]
  simp only [wrapOk, e, Bool.true_and] at h
  simp only [Bool.not_true, cond_false, bne, hc]
  cases h1 : validS s with
  | false =>
    rw [h1] at h
    exact h
  | true =>
    have hl := valid_len h1
    have hw : IntKind.i64.wrap ((s.length : Int) - 1) = (s.length : Int) - 1 := i64_of (by omega) (by omega)
    simp only [h1, Bool.true_and] at h
    simp only [Bool.not_true, cond_false, hw]
    refine cond_intro (by rw [valid_fit h1, valid_ne h1]; rfl) ?_
    refine cond_intro (decide_eq_true (by omega)) ?_
    exact h
noncomputable def s_impl_WrapShape_vg_vv : Sm := semG [.cell tI, .agg tS, .cell tI, .cell (.slice tF)] (fun x => match x with | (k, s, ax, xs, _) => decide (xs.length ≤ 1048576)) fun x => tup (vecRs [.agg [.deep tN], .cell (.imm .bool)] (match x with | (k, s, ax, xs, _) => ((wrapR k s ax xs, ()), wrapOk k s ax xs, ())))
theorem ok_impl_WrapShape_vg_vv : FnOk Try.prog 38 s_impl_WrapShape_vg_vv := fnOk_of_give ok_impl_WrapShape_vg.1

noncomputable def a_impl_JoinShapes_vg : Nat → Option Ann := fun n => bif Nat.beq n 6 then some ⟨[0,3,5,8,12,13,47,48,49],0,true⟩ else none
noncomputable def c_impl_JoinShapes_vg : Ctx := mkC Try.prog tyT [(98, s_impl_ruleOf), (33, s_impl_ValidShape), (84, s_impl_Shape_last)] [] [(99, s_impl_cloneShape_vs), (100, s_impl_told)] 96 a_impl_JoinShapes_vg 0 false [] false true
noncomputable def gp_impl_JoinShapes_vg : List (List (Option Ty)) := List.map giveR [.agg [.deep tN], .cell (.imm .bool)]
noncomputable def fr_impl_JoinShapes_vg_6 (k : Int) (xs : List Nat) (u v out : ShapeD) (d n i : Int) : Fr := [(0, .int .i64 k), (3, .vec tF xs), (5, .ptr 0 0), (8, .ptr 1 0), (12, .ptr 2 0), (13, .int .i64 d), (47, .vec tN v), (48, .int .i64 n), (49, .int .i64 i)]
noncomputable def hp_impl_JoinShapes_vg_6 (k : Int) (xs : List Nat) (u v out : ShapeD) (d n i : Int) : Heap := [.box [.vec tN u], .box [.nils], .box [.obj 3 0], .sl 0 tN out]
theorem r_impl_JoinShapes_vg_6 (k : Int) (xs : List Nat) (u v out : ShapeD) (d n i : Int) (Kn : Fr → Heap → Prop) (K : V → Heap → Prop) : round c_impl_JoinShapes_vg ⟨[0,3,5,8,12,13,47,48,49],0,true⟩ (lb c_impl_JoinShapes_vg 6 Try.f35) (fr_impl_JoinShapes_vg_6 k xs u v out d n i) (hp_impl_JoinShapes_vg_6 k xs u v out d n i) Kn (lkG gp_impl_JoinShapes_vg c_impl_JoinShapes_vg 6 Try.f35 [] K) =
  cond (decide (i < n))
    (cond (decide (0 ≤ i))
      ((match v[Int.toNat i]? with
        | some y0 => cond (decide (kindC (Prod.fst y0) > 0))
          (cond (decide (kindC (Prod.fst y0) > 1))
            (cond (decide ((List.length out + 1) * 48 ≤ 140737488355328))
              (Kn [(0, (.int .i64 (k))), (3, (.vec (.float .f32) (xs))), (5, (.ptr 0 0)), (8, (.ptr 1 0)), (12, (.ptr 2 0)), (13, (.int .i64 (d))), (47, (.vec tN (v))), (48, (.int .i64 (n))), (49, (.int .i64 (IntKind.wrap IntKind.i64 (i + 1))))] [(.box [(.vec tN (u))]), (.box [.nils]), (.box [(.obj 3 0)]), (.sl 0 tN (out ++ [(Prod.fst y0, IntKind.wrap IntKind.i64 (Prod.fst (Prod.snd y0) + d), IntKind.wrap IntKind.i64 (Prod.fst (Prod.snd (Prod.snd y0)) + d), Prod.snd (Prod.snd (Prod.snd y0)))]))])
              (False))
            (cond (decide ((List.length out + 1) * 48 ≤ 140737488355328))
              (Kn [(0, (.int .i64 (k))), (3, (.vec (.float .f32) (xs))), (5, (.ptr 0 0)), (8, (.ptr 1 0)), (12, (.ptr 2 0)), (13, (.int .i64 (d))), (47, (.vec tN (v))), (48, (.int .i64 (n))), (49, (.int .i64 (IntKind.wrap IntKind.i64 (i + 1))))] [(.box [(.vec tN (u))]), (.box [.nils]), (.box [(.obj 3 0)]), (.sl 0 tN (out ++ [(Prod.fst y0, IntKind.wrap IntKind.i64 (Prod.fst (Prod.snd y0) + d), Prod.snd (Prod.snd y0))]))])
              (False)))
          (cond (decide (kindC (Prod.fst y0) > 1))
            (cond (decide ((List.length out + 1) * 48 ≤ 140737488355328))
              (Kn [(0, (.int .i64 (k))), (3, (.vec (.float .f32) (xs))), (5, (.ptr 0 0)), (8, (.ptr 1 0)), (12, (.ptr 2 0)), (13, (.int .i64 (d))), (47, (.vec tN (v))), (48, (.int .i64 (n))), (49, (.int .i64 (IntKind.wrap IntKind.i64 (i + 1))))] [(.box [(.vec tN (u))]), (.box [.nils]), (.box [(.obj 3 0)]), (.sl 0 tN (out ++ [(Prod.fst y0, Prod.fst (Prod.snd y0), IntKind.wrap IntKind.i64 (Prod.fst (Prod.snd (Prod.snd y0)) + d), Prod.snd (Prod.snd (Prod.snd y0)))]))])
              (False))
            (cond (decide ((List.length out + 1) * 48 ≤ 140737488355328))
              (Kn [(0, (.int .i64 (k))), (3, (.vec (.float .f32) (xs))), (5, (.ptr 0 0)), (8, (.ptr 1 0)), (12, (.ptr 2 0)), (13, (.int .i64 (d))), (47, (.vec tN (v))), (48, (.int .i64 (n))), (49, (.int .i64 (IntKind.wrap IntKind.i64 (i + 1))))] [(.box [(.vec tN (u))]), (.box [.nils]), (.box [(.obj 3 0)]), (.sl 0 tN (out ++ [y0]))])
              (False)))
        | none => False))
      (False))
    (cond (decide ((List.length out + 1) * 48 ≤ 140737488355328))
      (K (.tuple [(.agg [(.dob 0 0)]), (.bool (validS (out ++ [(k, IntKind.wrap IntKind.i64 ((↑(List.length u) : Int) - (1 : Int)), IntKind.wrap IntKind.i64 ((↑(List.length out) : Int) - (1 : Int)), xs)])))]) [(.dp 0 0 tN (bif validS (out ++ [(k, IntKind.wrap IntKind.i64 ((↑(List.length u) : Int) - (1 : Int)), IntKind.wrap IntKind.i64 ((↑(List.length out) : Int) - (1 : Int)), xs)]) then out ++ [(k, IntKind.wrap IntKind.i64 ((↑(List.length u) : Int) - (1 : Int)), IntKind.wrap IntKind.i64 ((↑(List.length out) : Int) - (1 : Int)), xs)] else []))])
      (False)) := by kernel_rfl
theorem w_impl_JoinShapes_vg (k : Int) (u v : ShapeD) (xs : List Nat) (K : V → Heap → Prop) : wpFnG gp_impl_JoinShapes_vg c_impl_JoinShapes_vg Try.f35 (encAs [.cell tI, .agg tS, .agg tS, .cell (.slice tF)] (k, u, v, xs, ())) [] K =
 cond (!isK k)
 (K (.tuple [(.agg [(.dob 0 0)]), (.bool false)]) [(.dp 0 0 tN ([]))])
 (cond (kindC k != 2)
 (K (.tuple [(.agg [(.dob 0 0)]), (.bool false)]) [(.dp 0 0 tN ([]))])
 (cond (!validS u)
 (K (.tuple [(.agg [(.dob 0 0)]), (.bool false)]) [(.dp 0 0 tN ([]))])
 (cond (!validS v)
 (K (.tuple [(.agg [(.dob 0 0)]), (.bool false)]) [(.dp 0 0 tN ([]))])
 (cond (fitS u && !List.isEmpty u)
 (LoopE c_impl_JoinShapes_vg ⟨[0, 3, 5, 8, 12, 13, 47, 48, 49], 0, true⟩ (lb c_impl_JoinShapes_vg 6 Try.f35) [(0, (.int .i64 (k))), (3, (.vec (.float .f32) (xs))), (5, (.ptr 0 0)), (8, (.ptr 1 0)), (12, (.ptr 2 0)), (13, (.int .i64 ((↑(List.length u) : Int)))), (47, (.vec tN (v))), (48, (.int .i64 ((↑(List.length v) : Int)))), (49, (.int .i64 0))] [(.box [(.vec tN (u))]), (.box [.nils]), (.box [(.obj 3 0)]), (.sl 0 tN (u))] (lkG gp_impl_JoinShapes_vg c_impl_JoinShapes_vg 6 Try.f35 [] K))
 (False))))) := by kernel_rfl
noncomputable def s_impl_JoinShapes_vg : Sm := semV [.cell tI, .agg tS, .agg tS, .cell (.slice tF)] [.agg [.deep tN], .cell (.imm .bool)] (fun x => match x with | (k, u, v, xs, _) => decide (xs.length ≤ 1048576)) fun x => match x with | (k, u, v, xs, _) => ((joinR k u v xs, ()), joinOk k u v xs, ())
theorem ok_impl_JoinShapes_vg : FnOkL Try.prog 35 s_impl_JoinShapes_vg := fnOkO_give (fnOkO_runG (C := c_impl_JoinShapes_vg) gp_impl_JoinShapes_vg rfl mixed (.cons ok_impl_ruleOf (.cons ok_impl_ValidShape (.cons ok_impl_Shape_last .nil))) .nil (.cons ok_impl_cloneShape_vs (.cons ok_impl_told .nil)) Try.func35 (by kernel_rfl)) rfl fun (x : ((Int) × (ShapeD) × (ShapeD) × (List Nat) × Unit)) wf hg K h => by
  obtain ⟨k, u, v, xs, ⟨⟩⟩ := x
  replace hg : (decide (xs.length ≤ 1048576)) = true := hg
  replace h : K (tup (valRs [.agg [.deep tN], .cell (.imm .bool)] (((joinR k u v xs, ()), joinOk k u v xs, ())) 0)) (thRs [.agg [.deep tN], .cell (.imm .bool)] (((joinR k u v xs, ()), joinOk k u v xs, ()))) := h
  rw [w_impl_JoinShapes_vg k u v xs K]
  have hg := of_decide_eq_true hg
  unfold joinR at h
  cases hk : isK k with
  | false =>
    have e : inR k 5 8 = false := by rw [← joinK, hk, Bool.false_and]
    simp only [joinOk, e, Bool.false_and, Bool.and_false, cond_false] at h
    exact h
  | true =>
  cases hc : kindC k == 2 with
  | false =>
    have e : inR k 5 8 = false := by rw [← joinK, hk, hc, Bool.true_and]
    simp only [joinOk, e, Bool.false_and, Bool.and_false, cond_false] at h
    simp only [Bool.not_true, cond_false, bne, hc, Bool.not_false, cond_true]
    exact h
  | true =>
  have e : inR k 5 8 = true := by rw [← joinK, hk, hc, Bool.true_and]
  simp only [joinOk, e, Bool.true_and, joinBig] at h
  simp only [Bool.not_true, cond_false, bne, hc]
  cases h1 : validS u with
  | false =>
    rw [h1] at h
    exact h
  | true =>
  simp only [h1, Bool.true_and] at h
  simp only [Bool.not_true, cond_false]
  cases h2 : validS v with
  | false =>
    rw [h2] at h
    exact h
  | true =>
  simp only [h2, Bool.true_and] at h
  simp only [Bool.not_true, cond_false]
  have hl := valid_len h1
  have hl2 := valid_len h2
  refine cond_intro (by rw [valid_fit h1, valid_ne h1]; rfl) ?_
  refine loop_run (σ := Nat × ShapeD) (fun q => fr_impl_JoinShapes_vg_6 k xs u v [] u.length v.length q.1) (fun q => hp_impl_JoinShapes_vg_6 k xs u v q.2 u.length v.length q.1) (fun q => q.1 ≤ v.length ∧ q.2 = u ++ (v.take q.1).map (putN1 u.length)) (fun q => v.length - q.1) ?_ (0, u) ⟨Nat.zero_le _, by simp⟩
  rintro ⟨i, zs⟩ ⟨hi, hz⟩ Kn hkn
  simp only at hi hz hkn ⊢
  refine Eq.mpr (r_impl_JoinShapes_vg_6 k xs u v zs u.length v.length i Kn K) ?_
  have hl3 : zs.length = u.length + i := by rw [hz, List.length_append, List.length_map, List.length_take]; omega
  by_cases hlt : i < v.length
  · have hx := valid_wf h2 (k := 0) (List.getElem_mem hlt)
    have hstep : zs ++ [putN1 u.length (v[i]'hlt)] = u ++ (v.take (i + 1)).map (putN1 u.length) := by
      rw [hz, take_one hlt, List.map_append, List.append_assoc]; rfl
    have := hkn (i + 1, zs ++ [putN1 u.length (v[i]'hlt)]) ⟨hlt, hstep⟩ (by simp only; omega)
    simp only at this
    simp only [d_lt hlt, d_0, cond_true, Int.toNat_natCast, get_lt hlt, hl3, d_t (show (u.length + i + 1) * 48 ≤ 140737488355328 by omega)]
    generalize v[i]'hlt = x at *
    rw [i64_of (show -9223372036854775808 ≤ (i : Int) + 1 by omega) (by omega), kindC0 hx, kindC1 hx]
    revert this
    unfold putN1
    cases inR x.1 0 4 <;> cases inR x.1 5 8 <;> exact id
  · have : i = v.length := by omega
    subst this
    rw [List.take_length] at hz
    have hw : IntKind.i64.wrap ((u.length : Int) - 1) = (u.length : Int) - 1 := i64_of (by omega) (by omega)
    have hw2 : IntKind.i64.wrap ((zs.length : Int) - 1) = (u.length : Int) + v.length - 1 := by rw [i64_of (by omega) (by omega)]; omega
    simp only [d_nlt hlt, cond_false, hw, hw2]
    refine cond_intro (decide_eq_true (by omega)) ?_
    rw [hz]
    exact h

noncomputable def a_impl_UnionOf_vg : Nat → Option Ann := fun n => bif Nat.beq n 5 then some ⟨[2,4,5,21,22,23],0,true⟩ else none
noncomputable def c_impl_UnionOf_vg : Ctx := mkC Try.prog tyT [(79, s_impl_in)] [] [(100, s_impl_told), (35, s_impl_JoinShapes_vg)] 39 a_impl_UnionOf_vg 0 false [] true
noncomputable def gp_impl_UnionOf_vg : List (List (Option Ty)) := List.map giveR [.agg [.deep tN], .cell (.imm .bool)]
noncomputable def fr_impl_UnionOf_vg_5 (vs : List ShapeD) (u : ShapeD) (b : Bool) (n i : Int) : Fr := [(2, .ptr 0 0), (4, .ptr 1 0), (5, .bool b), (21, .vec tS vs), (22, .int .i64 n), (23, .int .i64 i)]
noncomputable def hp_impl_UnionOf_vg_5 (vs : List ShapeD) (u : ShapeD) (b : Bool) (n i : Int) : Heap := [.box [.nils], .box [.dob 2 0], .dp 0 0 tN u]
theorem r_impl_UnionOf_vg_5 (vs : List ShapeD) (u : ShapeD) (b : Bool) (n i : Int) (Kn : Fr → Heap → Prop) (K : V → Heap → Prop) : round c_impl_UnionOf_vg ⟨[2,4,5,21,22,23],0,true⟩ (lb c_impl_UnionOf_vg 5 Try.f37) (fr_impl_UnionOf_vg_5 vs u b n i) (hp_impl_UnionOf_vg_5 vs u b n i) Kn (lkG gp_impl_UnionOf_vg c_impl_UnionOf_vg 5 Try.f37 [] K) =
  cond (decide (i < n))
    (cond (decide (0 ≤ i))
      ((match vs[Int.toNat i]? with
        | some y0 => cond (!b)
          (K (.tuple [(.agg [(.dob 0 0)]), (.bool false)]) [(.dp 0 0 tN ([]))])
          (Kn [(2, (.ptr 0 0)), (4, (.ptr 1 0)), (5, (.bool (joinOk 5 u y0 []))), (21, (.vec (.slice tN) (vs))), (22, (.int .i64 (n))), (23, (.int .i64 (IntKind.wrap IntKind.i64 (i + 1))))] [(.box [.nils]), (.box [(.dob 2 0)]), (.dp 0 0 tN (joinR 5 u y0 []))])
        | none => False))
      (False))
    (K (.tuple [(.agg [(.dob 0 0)]), (.bool (b))]) [(.dp 0 0 tN (u))]) := by kernel_rfl
theorem w_impl_UnionOf_vg (ss : List ShapeD) (K : V → Heap → Prop) : wpFnG gp_impl_UnionOf_vg c_impl_UnionOf_vg Try.f37 (encAs [.cell (.slice tS)] (ss, ())) [] K =
  cond (!inR (↑(List.length ss) : Int) 1 16)
    (K (.tuple [(.agg [(.dob 0 0)]), (.bool false)]) [(.dp 0 0 tN ([]))])
    ((match ss[0]? with
      | some y0 => cond (decide (0 ≤ 1) && (decide (1 ≤ (↑(List.length ss) : Int)) && decide ((↑(List.length ss) : Int) ≤ (↑(List.length ss) : Int))))
        (LoopE c_impl_UnionOf_vg ⟨[2, 4, 5, 21, 22, 23], 0, true⟩ (lb c_impl_UnionOf_vg 5 Try.f37) [(2, (.ptr 0 0)), (4, (.ptr 1 0)), (5, (.bool (validS y0))), (21, (.vec (.slice tN) (List.drop 1 (List.take (Int.toNat (↑(List.length ss) : Int)) ss)))), (22, (.int .i64 ((↑(List.length (List.drop 1 (List.take (Int.toNat (↑(List.length ss) : Int)) ss))) : Int)))), (23, (.int .i64 0))] [(.box [.nils]), (.box [(.dob 2 0)]), (.dp 0 0 tN (bif validS y0 then y0 else []))] (lkG gp_impl_UnionOf_vg c_impl_UnionOf_vg 5 Try.f37 [] K))
        (False)
      | none => False)) := by kernel_rfl
noncomputable def s_impl_UnionOf_vg : Sm := semV [.cell (.slice tS)] [.agg [.deep tN], .cell (.imm .bool)] (fun x => match x with | (ss, _) => true) fun x => match x with | (ss, _) => ((((unionO ss).getD []), ()), (unionO ss).isSome, ())
theorem ok_impl_UnionOf_vg : FnOkL Try.prog 37 s_impl_UnionOf_vg := fnOkO_give (fnOkO_runG (C := c_impl_UnionOf_vg) gp_impl_UnionOf_vg rfl mixed (.cons ok_impl_in .nil) .nil (.cons ok_impl_told (.cons ok_impl_JoinShapes_vg .nil)) Try.func37 (by kernel_rfl)) rfl fun (x : ((List ShapeD) × Unit)) wf hg K h => by
  obtain ⟨ss, ⟨⟩⟩ := x
  replace h : K (tup (valRs [.agg [.deep tN], .cell (.imm .bool)] (((((unionO ss).getD []), ()), (unionO ss).isSome, ())) 0)) (thRs [.agg [.deep tN], .cell (.imm .bool)] (((((unionO ss).getD []), ()), (unionO ss).isSome, ()))) := h
  rw [w_impl_UnionOf_vg ss K]
  obtain ⟨⟨wl, _⟩, _⟩ := wf
  have wl : ss.length ≤ 9223372036854775807 := wl
  cases hss : ss with
  | nil => subst hss; exact h
  | cons s0 rest =>
  rw [← hss]
  have hl0 : ss.length = rest.length + 1 := by rw [hss]; rfl
  have hU : unionO ss = bif inR (ss.length : Int) 1 16 && validS s0 then unionGo s0 rest else none := by rw [hss]; rfl
  have h0 : ss[0]? = some s0 := by rw [hss]; rfl
  cases hi : inR (ss.length : Int) 1 16 with
  | false =>
    rw [hU, hi] at h
    exact h
  | true =>
  rw [hi, Bool.true_and] at hU
  simp only [h0, Bool.not_true, cond_false]
  refine cond_intro (by simp only [Bool.and_eq_true, decide_eq_true_eq]; omega) ?_
  have hd : List.drop (Int.toNat 1) (List.take (Int.toNat (ss.length : Int)) ss) = rest := by
    rw [Int.toNat_natCast, List.take_length, hss]; rfl
  simp only [Int.toNat_natCast, List.take_length, show ss.drop 1 = rest by rw [hss]; rfl]
  refine loop_run (σ := Nat × ShapeD × Bool) (fun q => fr_impl_UnionOf_vg_5 rest q.2.1 q.2.2 rest.length q.1) (fun q => hp_impl_UnionOf_vg_5 rest q.2.1 q.2.2 rest.length q.1) (fun q => q.1 ≤ rest.length ∧ (q.2.2 = true → unionGo q.2.1 (rest.drop q.1) = unionO ss) ∧ (q.2.2 = false → q.2.1 = [] ∧ unionO ss = none)) (fun q => rest.length - q.1) ?_ (0, (bif validS s0 then s0 else []), validS s0) ⟨Nat.zero_le _, fun e => ?_, fun e => ?_⟩
  rotate_left
  · simp only at e ⊢
    rw [hU, e]
    rfl
  · simp only at e ⊢
    rw [hU, e]
    exact ⟨rfl, rfl⟩
  rintro ⟨i, u, b⟩ ⟨hi, hb1, hb2⟩ Kn hk
  simp only at hi hb1 hb2 hk ⊢
  rw [r_impl_UnionOf_vg_5 rest u b rest.length i Kn K]
  by_cases hlt : i < rest.length
  · rw [List.drop_eq_getElem_cons hlt] at hb1
    simp only [unionGo] at hb1
    simp only [d_lt hlt, d_0, cond_true, Int.toNat_natCast, get_lt hlt]
    generalize rest[i]'hlt = v at *
    cases b with
    | false =>
      rw [(hb2 rfl).2] at h
      exact h
    | true =>
      have hz := hb1 rfl
      simp only [Bool.not_true, cond_false]
      rw [i64_of (show -9223372036854775808 ≤ (i : Int) + 1 by omega) (by omega)]
      refine hk (i + 1, joinR 5 u v [], joinOk 5 u v []) ⟨hlt, fun e => ?_, fun e => ?_⟩ (by simp only; omega)
      · simp only at e ⊢
        unfold joinR
        rw [e, cond_true] at hz ⊢
        exact hz
      · simp only at e ⊢
        unfold joinR
        rw [e, cond_false] at hz ⊢
        exact ⟨rfl, hz.symm⟩
  · have : i = rest.length := by omega
    subst this
    simp only [d_nlt hlt, cond_false]
    cases b with
    | false =>
      obtain ⟨e1, e2⟩ := hb2 rfl
      subst e1
      rw [e2] at h
      exact h
    | true =>
      have hz := hb1 rfl
      rw [List.drop_of_length_le (Nat.le_refl _)] at hz
      simp only [unionGo] at hz
      rw [← hz] at h
      exact h

end Go.Proofs.Ytfhpmcdbfebflaa

/- The source of bytes from which the laws draw. -/
set_option linter.unusedVariables false
set_option linter.unusedSimpArgs false
set_option maxRecDepth 100000
namespace Go.Proofs.Ytfhpmcdbfebflaa
open Go.Ev

abbrev SrcD := List Int × Int × Int

noncomputable def c_spec_l00From : Ctx := mkC Try.prog tyT [] [] [] 6 (fun _ => none) 0
theorem w_spec_l00From (xs : List Int) (K : V → Heap → Prop) : wpFnO c_spec_l00From Try.f67 (encAs [.cell tB] (xs, ())) [] K =
 K (.ptr 0 0) [(.box [(.vec (.int .u8) (xs)), (.int .i64 0), (.int .u64 0)])] := by kernel_rfl
noncomputable def s_spec_l00From : Sm := semN tSrc [.cell tB] fun x => match x with | (xs, _) => (xs, 0, 0)
theorem ok_spec_l00From : FnOkL Try.prog 67 s_spec_l00From := fnOkO_new (fnOkO_runC (C := c_spec_l00From) rfl mixed .nil .nil .nil Try.func67 (by kernel_rfl)) fun (x : ((List Int) × Unit)) wf K h => by
  obtain ⟨xs, ⟨⟩⟩ := x
  replace h : K (.ptr 0 0) [.box (enc tSrc ((xs, 0, 0)))] := h
  rw [w_spec_l00From xs K]
  exact h

def srcIn (L : Nat) (s : SrcD) : Bool := decide (0 ≤ s.2.1) && decide (s.2.1 ≤ (L : Int) * 1152921504606846976)
def byteOf (s : SrcD) : Int := bif decide (s.2.1 < (s.1.length : Int)) then (s.1[s.2.1.toNat]?).getD 0 else 0
def seedOf (s : SrcD) : Int := IntKind.u64.wrap (IntKind.u64.wrap (IntKind.u64.wrap (s.2.2 * 6364136223846793005) + IntKind.u64.wrap (byteOf s)) + 1442695040888963407)
def nextS (s : SrcD) : SrcD := (s.1, s.2.1 + 1, seedOf s)
def nextV (s : SrcD) : Int := bif decide (s.2.1 + 1 ≤ (s.1.length : Int)) then byteOf s
  else IntKind.i64.wrap (IntKind.u64.wrap ((BitVec.toNat (BitVec.ofInt (IntKind.bits IntKind.u64) (Int.fdiv (seedOf s) (2 ^ min (Int.toNat 40) (IntKind.bits IntKind.u64))) &&& BitVec.ofInt (IntKind.bits IntKind.u64) 255)) : Int))
theorem srcIn_iff {L : Nat} {s : SrcD} : srcIn L s = true ↔ 0 ≤ s.2.1 ∧ s.2.1 ≤ (L : Int) * 1152921504606846976 := by
  simp [srcIn]
def bytes (xs : List Int) : Prop := ∀ b ∈ xs, 0 ≤ b ∧ b ≤ 255
theorem bytes_of {xs : List Int} (h : Wf tB xs) : bytes xs := fun b hb => h.2 b hb
theorem byteOf_range {s : SrcD} (h : bytes s.1) : 0 ≤ byteOf s ∧ byteOf s ≤ 255 := by
  unfold byteOf
  cases decide (s.2.1 < (s.1.length : Int)) with
  | false => simp
  | true =>
    simp only [cond_true]
    cases e : s.1[s.2.1.toNat]? with
    | none => simp
    | some b => exact h b (List.mem_of_getElem? e)

noncomputable def c_spec_l00Src_next : Ctx := mkC Try.prog tyT [] [] [] 62 (fun _ => none) 1
theorem w_spec_l00Src_next (s : SrcD) (K : V → Heap → Prop) : wpFnO c_spec_l00Src_next Try.f130 (.ptr 0 0 :: encAs [] ()) [.box (enc tSrc s)] K =
  cond (decide (Prod.fst (Prod.snd s) < (↑(List.length (Prod.fst s)) : Int)))
    (cond (decide (0 ≤ Prod.fst (Prod.snd s)))
      ((match (Prod.fst s)[Int.toNat (Prod.fst (Prod.snd s))]? with
        | some y0 => cond (decide (IntKind.wrap IntKind.i64 (Prod.fst (Prod.snd s) + 1) ≤ (↑(List.length (Prod.fst s)) : Int)))
          (K (.int .i64 (IntKind.wrap IntKind.i64 y0)) [(.box [(.vec (.int .u8) (Prod.fst s)), (.int .i64 (IntKind.wrap IntKind.i64 (Prod.fst (Prod.snd s) + 1))), (.int .u64 (IntKind.wrap IntKind.u64 (IntKind.wrap IntKind.u64 (IntKind.wrap IntKind.u64 (Prod.snd (Prod.snd s) * 6364136223846793005) + IntKind.wrap IntKind.u64 (IntKind.wrap IntKind.i64 y0)) + 1442695040888963407)))])])
          (K (.int .i64 (IntKind.wrap IntKind.i64 (IntKind.wrap IntKind.u64 (↑(BitVec.toNat (BitVec.ofInt 64 (Int.fdiv (IntKind.wrap IntKind.u64 (IntKind.wrap IntKind.u64 (IntKind.wrap IntKind.u64 (Prod.snd (Prod.snd s) * 6364136223846793005) + IntKind.wrap IntKind.u64 (IntKind.wrap IntKind.i64 y0)) + 1442695040888963407)) (2 ^ 40)) &&& BitVec.ofInt 64 255)) : Int)))) [(.box [(.vec (.int .u8) (Prod.fst s)), (.int .i64 (IntKind.wrap IntKind.i64 (Prod.fst (Prod.snd s) + 1))), (.int .u64 (IntKind.wrap IntKind.u64 (IntKind.wrap IntKind.u64 (IntKind.wrap IntKind.u64 (Prod.snd (Prod.snd s) * 6364136223846793005) + IntKind.wrap IntKind.u64 (IntKind.wrap IntKind.i64 y0)) + 1442695040888963407)))])])
        | none => False))
      (False))
    (cond (decide (IntKind.wrap IntKind.i64 (Prod.fst (Prod.snd s) + 1) ≤ (↑(List.length (Prod.fst s)) : Int)))
      (K (.int .i64 0) [(.box [(.vec (.int .u8) (Prod.fst s)), (.int .i64 (IntKind.wrap IntKind.i64 (Prod.fst (Prod.snd s) + 1))), (.int .u64 (IntKind.wrap IntKind.u64 (IntKind.wrap IntKind.u64 (IntKind.wrap IntKind.u64 (Prod.snd (Prod.snd s) * 6364136223846793005) + IntKind.wrap IntKind.u64 0) + 1442695040888963407)))])])
      (K (.int .i64 (IntKind.wrap IntKind.i64 (IntKind.wrap IntKind.u64 (↑(BitVec.toNat (BitVec.ofInt 64 (Int.fdiv (IntKind.wrap IntKind.u64 (IntKind.wrap IntKind.u64 (IntKind.wrap IntKind.u64 (Prod.snd (Prod.snd s) * 6364136223846793005) + IntKind.wrap IntKind.u64 0) + 1442695040888963407)) (2 ^ 40)) &&& BitVec.ofInt 64 255)) : Int)))) [(.box [(.vec (.int .u8) (Prod.fst s)), (.int .i64 (IntKind.wrap IntKind.i64 (Prod.fst (Prod.snd s) + 1))), (.int .u64 (IntKind.wrap IntKind.u64 (IntKind.wrap IntKind.u64 (IntKind.wrap IntKind.u64 (Prod.snd (Prod.snd s) * 6364136223846793005) + IntKind.wrap IntKind.u64 0) + 1442695040888963407)))])])) := by kernel_rfl
noncomputable def s_spec_l00Src_next : Sm := semP tSrc [] (fun s x => match x with | _ => srcIn 7 s) fun s x => match x with | _ => (.int .i64 (nextV s), nextS s)
theorem ok_spec_l00Src_next : FnOkL Try.prog 130 s_spec_l00Src_next := fnOkO_box (fnOkO_runC (C := c_spec_l00Src_next) rfl mixed .nil .nil .nil Try.func130 (by kernel_rfl)) fun (s : SrcD) (x : Unit) ws wf hg K h => by
  obtain ⟨⟩ := x
  replace hg : (srcIn 7 s) = true := hg
  replace h : K (.int .i64 (nextV s)) [.box (enc tSrc (nextS s))] := h
  rw [w_spec_l00Src_next s  K]
  rw [srcIn_iff] at hg
  have hb : bytes s.1 := bytes_of ws.1
  have h64 : IntKind.i64.wrap (s.2.1 + 1) = s.2.1 + 1 := i64_of (by omega) (by omega)
  have h0 : decide (0 ≤ s.2.1) = true := decide_eq_true hg.1
  have hbr := byteOf_range hb
  have h1 : IntKind.i64.wrap (byteOf s) = byteOf s := i64_of (by omega) (by omega)
  rw [h64, h0]
  simp only [cond_true]
  obtain ⟨xs, at_, sd⟩ := s
  simp only [byteOf, nextS, nextV, seedOf, enc] at h h1 hg ⊢
  by_cases hlt : at_ < (xs.length : Int)
  · have e1 : decide (at_ < (xs.length : Int)) = true := decide_eq_true hlt
    simp only [e1, cond_true] at h h1 ⊢
    have hl : at_.toNat < xs.length := by omega
    have hx : xs[at_.toNat]? = some (xs[at_.toNat]'hl) := List.getElem?_eq_getElem hl
    simp only [hx, Option.getD_some] at h h1 ⊢
    simp only [h1]
    cases e : decide (at_ + 1 ≤ (xs.length : Int)) <;> simp only [e, cond_true, cond_false] at h ⊢ <;> exact h
  · have e1 : decide (at_ < (xs.length : Int)) = false := decide_eq_false hlt
    simp only [e1, cond_false] at h ⊢
    cases e : decide (at_ + 1 ≤ (xs.length : Int)) <;> simp only [e, cond_true, cond_false] at h ⊢ <;> exact h

theorem nextV_range {s : SrcD} (h : bytes s.1) : 0 ≤ nextV s ∧ nextV s ≤ 255 := by
  unfold nextV
  cases decide (s.2.1 + 1 ≤ (s.1.length : Int)) with
  | true => exact byteOf_range h
  | false =>
    simp only [cond_false]
    have key : BitVec.toNat (BitVec.ofInt (IntKind.bits IntKind.u64) (Int.fdiv (seedOf s) (2 ^ min (Int.toNat 40) (IntKind.bits IntKind.u64))) &&& BitVec.ofInt (IntKind.bits IntKind.u64) 255) ≤ 255 := by
      rw [BitVec.toNat_and]
      refine Nat.le_trans Nat.and_le_right ?_
      decide
    generalize BitVec.toNat (BitVec.ofInt (IntKind.bits IntKind.u64) (Int.fdiv (seedOf s) (2 ^ min (Int.toNat 40) (IntKind.bits IntKind.u64))) &&& BitVec.ofInt (IntKind.bits IntKind.u64) 255) = n at key
    have e3 : IntKind.u64.wrap (n : Int) = n := wrap_of (by have : IntKind.u64.min = 0 := rfl; omega) (by have : IntKind.u64.max = 18446744073709551615 := rfl; omega)
    rw [e3, i64_of (by omega) (by omega)]
    omega

structure SrcAt (L : Nat) (s : SrcD) : Prop where
  b : bytes s.1
  lo : 0 ≤ s.2.1
  hi : s.2.1 ≤ (L : Int) * 1152921504606846976
theorem SrcAt.ok {L : Nat} {s : SrcD} (h : SrcAt L s) : srcIn L s = true := srcIn_iff.2 ⟨h.lo, h.hi⟩
theorem SrcAt.of {L : Nat} {s : SrcD} (hb : bytes s.1) (h : srcIn L s = true) : SrcAt L s := ⟨hb, (srcIn_iff.1 h).1, (srcIn_iff.1 h).2⟩

def pickV (s : SrcD) (n : Int) : Int := bif decide (n ≤ 1) then 0 else bif decide (200 < n) then (nextV s * 256 + nextV (nextS s)).tmod n else (nextV s).tmod n
def pickS (s : SrcD) (n : Int) : SrcD := bif decide (n ≤ 1) then s else bif decide (200 < n) then nextS (nextS s) else nextS s
theorem pickS_1 (s : SrcD) (n : Int) : (pickS s n).1 = s.1 := by
  unfold pickS
  cases decide (n ≤ 1) <;> cases decide (200 < n) <;> rfl
theorem pickS_at (s : SrcD) (n : Int) : s.2.1 ≤ (pickS s n).2.1 ∧ (pickS s n).2.1 ≤ s.2.1 + 2 := by
  unfold pickS nextS
  cases decide (n ≤ 1) <;> cases decide (200 < n) <;> simp only [cond_true, cond_false] <;> omega
theorem pickV_range {s : SrcD} (h : bytes s.1) {n : Int} (hn : 1 ≤ n) : 0 ≤ pickV s n ∧ pickV s n < n := by
  have h1 := nextV_range h
  have h2 : 0 ≤ nextV (nextS s) ∧ nextV (nextS s) ≤ 255 := nextV_range (s := nextS s) h
  unfold pickV
  by_cases e1 : n ≤ 1
  · rw [decide_eq_true e1]; simp only [cond_true]; omega
  · rw [decide_eq_false e1]
    by_cases e2 : 200 < n
    · rw [decide_eq_true e2]
      simp only [cond_true, cond_false]
      exact ⟨Int.tmod_nonneg _ (by omega), Int.tmod_lt_of_pos _ (by omega)⟩
    · rw [decide_eq_false e2]
      simp only [cond_false]
      exact ⟨Int.tmod_nonneg _ (by omega), Int.tmod_lt_of_pos _ (by omega)⟩

noncomputable def c_spec_l00Src_pick : Ctx := mkC Try.prog tyT [] [] [(130, s_spec_l00Src_next)] 20 (fun _ => none) 1
theorem w_spec_l00Src_pick (s : SrcD) (n : Int) (K : V → Heap → Prop) : wpFnO c_spec_l00Src_pick Try.f70 (.ptr 0 0 :: encAs [.cell (.int .i64)] (n, ())) [.box (enc tSrc s)] K =
 cond (decide (n ≤ 1))
 (K (.int .i64 0) [(.box [(.vec (.int .u8) (Prod.fst s)), (.int .i64 (Prod.fst (Prod.snd s))), (.int .u64 (Prod.snd (Prod.snd s)))])])
 (cond (srcIn 7 s)
 (cond (decide (n > 200))
 (cond (srcIn 7 (nextS s))
 (cond (n == 0)
 (False)
 (K (.int .i64 (Int.tmod (IntKind.wrap IntKind.i64 (IntKind.wrap IntKind.i64 (nextV s * 256) + nextV (nextS s))) n)) [(.box [(.vec (.int .u8) (Prod.fst (nextS (nextS s)))), (.int .i64 (Prod.fst (Prod.snd (nextS (nextS s))))), (.int .u64 (Prod.snd (Prod.snd (nextS (nextS s)))))])]))
 (False))
 (cond (n == 0)
 (False)
 (K (.int .i64 (Int.tmod (nextV s) n)) [(.box [(.vec (.int .u8) (Prod.fst (nextS s))), (.int .i64 (Prod.fst (Prod.snd (nextS s)))), (.int .u64 (Prod.snd (Prod.snd (nextS s))))])])))
 (False)) := by kernel_rfl
noncomputable def s_spec_l00Src_pick : Sm := semP tSrc [.cell (.int .i64)] (fun s x => match x with | (n, _) => srcIn 6 s) fun s x => match x with | (n, _) => (.int .i64 (pickV s n), pickS s n)
theorem ok_spec_l00Src_pick : FnOkL Try.prog 70 s_spec_l00Src_pick := fnOkO_box (fnOkO_runC (C := c_spec_l00Src_pick) rfl mixed .nil .nil (.cons ok_spec_l00Src_next .nil) Try.func70 (by kernel_rfl)) fun (s : SrcD) (x : ((Int) × Unit)) ws wf hg K h => by
  obtain ⟨n, ⟨⟩⟩ := x
  replace hg : (srcIn 6 s) = true := hg
  replace h : K (.int .i64 (pickV s n)) [.box (enc tSrc (pickS s n))] := h
  rw [w_spec_l00Src_pick s n K]
  rw [srcIn_iff] at hg
  have hb : bytes s.1 := bytes_of ws.1
  have g7 : srcIn 7 s = true := srcIn_iff.2 (by omega)
  have g7' : srcIn 7 (nextS s) = true := srcIn_iff.2 (by simp only [nextS]; omega)
  have h1 := nextV_range hb
  have h2 : 0 ≤ nextV (nextS s) ∧ nextV (nextS s) ≤ 255 := nextV_range (s := nextS s) hb
  unfold pickV pickS at h
  by_cases e1 : n ≤ 1
  · simp only [decide_eq_true e1, cond_true] at h ⊢
    exact h
  · have e3 : (n == 0) = false := beq_eq_false_iff_ne.2 (by omega)
    simp only [decide_eq_false e1, cond_false, g7, g7', cond_true, e3] at h ⊢
    by_cases e2 : 200 < n
    · have e2' : n > 200 := e2
      simp only [decide_eq_true e2, cond_true] at h ⊢
      rw [i64_of (n := nextV s * 256) (by omega) (by omega), i64_of (by omega) (by omega)]
      exact h
    · have e2' : ¬ n > 200 := e2
      simp only [decide_eq_false e2, cond_false] at h ⊢
      exact h

noncomputable def c_spec_l00Src_one : Ctx := mkC Try.prog tyT [] [] [(70, s_spec_l00Src_pick)] 9 (fun _ => none) 1
theorem w_spec_l00Src_one (s : SrcD) (n : Int) (K : V → Heap → Prop) : wpFnO c_spec_l00Src_one Try.f127 (.ptr 0 0 :: encAs [.cell (.int .i64)] (n, ())) [.box (enc tSrc s)] K =
 cond (srcIn 6 s)
 (K (.bool (pickV s n == 0)) [(.box [(.vec (.int .u8) (Prod.fst (pickS s n))), (.int .i64 (Prod.fst (Prod.snd (pickS s n)))), (.int .u64 (Prod.snd (Prod.snd (pickS s n))))])])
 (False) := by kernel_rfl
noncomputable def s_spec_l00Src_one : Sm := semP tSrc [.cell (.int .i64)] (fun s x => match x with | (n, _) => srcIn 6 s) fun s x => match x with | (n, _) => (.bool (pickV s n == 0), pickS s n)
theorem ok_spec_l00Src_one : FnOkL Try.prog 127 s_spec_l00Src_one := fnOkO_box (fnOkO_runC (C := c_spec_l00Src_one) rfl mixed .nil .nil (.cons ok_spec_l00Src_pick .nil) Try.func127 (by kernel_rfl)) fun (s : SrcD) (x : ((Int) × Unit)) ws wf hg K h => by
  obtain ⟨n, ⟨⟩⟩ := x
  replace hg : (srcIn 6 s) = true := hg
  replace h : K (.bool (pickV s n == 0)) [.box (enc tSrc (pickS s n))] := h
  rw [w_spec_l00Src_one s n K]
  rw [hg]; exact h

end Go.Proofs.Ytfhpmcdbfebflaa

/- Plain: shapes that are made by a stack of free nodes are valid. -/
set_option linter.unusedVariables false
set_option linter.unusedSimpArgs false
set_option maxRecDepth 100000
namespace Go.Proofs.Ytfhpmcdbfebflaa
open Go.Ev

theorem inc1_get (u : List Int) (c : Int) (hc : 0 ≤ c) (p : Nat) (hp : p < u.length) : (inc1 u c)[p]? = some ((u[p]'hp) + (if c = (p : Int) then 1 else 0)) := by
  unfold inc1
  by_cases e : c = (p : Int)
  · subst e
    rw [Int.toNat_natCast, List.getElem?_set_self hp, List.getElem?_eq_getElem hp]
    simp
  · rw [List.getElem?_set_ne (by omega), List.getElem?_eq_getElem hp, if_neg e, Int.add_zero]
theorem inc1_len (u : List Int) (c : Int) : (inc1 u c).length = u.length := by unfold inc1; exact List.length_set
theorem incs_len : ∀ (cs : List Int) (u : List Int), (incs u cs).length = u.length
  | [], _ => rfl
  | c :: cs, u => (incs_len cs (inc1 u c)).trans (inc1_len u c)
theorem incs_get : ∀ (cs : List Int) (u : List Int), (∀ c ∈ cs, 0 ≤ c) → ∀ (p : Nat) (hp : p < u.length), (incs u cs)[p]? = some ((u[p]'hp) + (cs.count (p : Int) : Nat))
  | [], u, _, p, hp => by
    show u[p]? = _
    rw [List.getElem?_eq_getElem hp]
    simp
  | c :: cs, u, h, p, hp => by
    have hp' : p < (inc1 u c).length := by rw [inc1_len]; exact hp
    have h1 := inc1_get u c (h c (by simp)) p hp
    have h2 := incs_get cs (inc1 u c) (fun c' hc' => h c' (by simp [hc'])) p hp'
    show (incs (inc1 u c) cs)[p]? = _
    rw [h2]
    congr 1
    have h3 : (inc1 u c)[p]'hp' = (u[p]'hp) + (if c = (p : Int) then 1 else 0) := by
      have := inc1_get u c (h c (by simp)) p hp
      rw [List.getElem?_eq_getElem hp'] at this
      exact Option.some.inj this
    rw [h3, List.count_cons]
    by_cases e : c = (p : Int)
    · rw [if_pos e, e, beq_self_eq_true, if_pos rfl]; omega
    · rw [if_neg e, beq_eq_false_iff_ne.2 e, if_neg (by decide)]; omega
theorem uses_len (ns : List NodeD) (u : List Int) : (usesOf ns u).length = u.length := by
  unfold usesOf
  induction ns generalizing u with
  | nil => rfl
  | cons n r ih => rw [List.foldl_cons, ih, incs_len]
theorem uses_get (ns : List NodeD) : ∀ (u : List Int), (∀ n ∈ ns, ∀ c ∈ kidsN n, 0 ≤ c) → ∀ (p : Nat) (hp : p < u.length), (usesOf ns u)[p]? = some ((u[p]'hp) + ((ns.flatMap kidsN).count (p : Int) : Nat)) := by
  induction ns with
  | nil =>
    intro u _ p hp
    show u[p]? = _
    rw [List.getElem?_eq_getElem hp]
    simp
  | cons n r ih =>
    intro u h p hp
    have hp' : p < (incs u (kidsN n)).length := by rw [incs_len]; exact hp
    have h1 := incs_get (kidsN n) u (h n (by simp)) p hp
    have h2 := ih (incs u (kidsN n)) (fun m hm => h m (by simp [hm])) p hp'
    show (usesOf r (incs u (kidsN n)))[p]? = _
    rw [h2]
    rw [List.getElem?_eq_getElem hp'] at h1
    rw [Option.some.inj h1, List.flatMap_cons, List.count_append]
    congr 1
    omega

def upTo (n : Nat) : List Int := (List.range n).map Int.ofNat
theorem upTo_mem {n : Nat} {x : Int} (h : x ∈ upTo n) : 0 ≤ x ∧ x < n := by
  unfold upTo at h
  obtain ⟨i, hi, rfl⟩ := List.mem_map.1 h
  have := List.mem_range.1 hi
  exact ⟨Int.natCast_nonneg i, by show (i : Int) < n; omega⟩
theorem upTo_succ (n : Nat) : upTo (n + 1) = upTo n ++ [(n : Int)] := by
  unfold upTo
  rw [List.range_succ, List.map_append]
  rfl
theorem upTo_count (n p : Nat) (h : p < n) : (upTo n).count (p : Int) = 1 := by
  induction n with
  | zero => omega
  | succ n ih =>
    rw [upTo_succ, List.count_append, List.count_cons, List.count_nil]
    by_cases e : p = n
    · subst e
      have : (upTo p).count (p : Int) = 0 := List.count_eq_zero.2 fun hm => by have := upTo_mem hm; omega
      rw [this, beq_self_eq_true, if_pos rfl]
    · rw [ih (by omega), beq_eq_false_iff_ne.2 (by omega), if_neg (by decide)]
structure Stack (ns : List NodeD) (fr : List Int) : Prop where
  nodes : ∀ (j : Nat) (n : NodeD), ns[j]? = some n → nodeB j n = true
  perm : (ns.flatMap kidsN ++ fr).Perm (upTo ns.length)
  last : ns ≠ [] → fr.getLast? = some ((ns.length : Int) - 1)
theorem stack_nil : Stack [] [] := ⟨fun j n h => by simp at h, by simp [upTo], fun h => absurd rfl h⟩
theorem Stack.free {ns : List NodeD} {fr : List Int} (h : Stack ns fr) : ∀ c ∈ fr, 0 ≤ c ∧ c < ns.length := fun c hc =>
  upTo_mem (h.perm.subset (List.mem_append_right _ hc))
theorem Stack.kids {ns : List NodeD} {fr : List Int} (h : Stack ns fr) : ∀ n ∈ ns, ∀ c ∈ kidsN n, 0 ≤ c := fun n hn c hc =>
  (upTo_mem (h.perm.subset (List.mem_append_left _ (List.mem_flatMap.2 ⟨n, hn, hc⟩)))).1
theorem Stack.len {ns : List NodeD} {fr : List Int} (h : Stack ns fr) : fr.length ≤ ns.length := by
  have := h.perm.length_eq
  rw [List.length_append] at this
  unfold upTo at this
  rw [List.length_map, List.length_range] at this
  omega
theorem Stack.push {ns : List NodeD} {fr rest : List Int} (h : Stack ns fr) {n : NodeD} (hf : fr = rest ++ kidsN n) (hn : nodeB ns.length n = true) : Stack (ns ++ [n]) (rest ++ [(ns.length : Int)]) := by
  refine ⟨fun j m hj => ?_, ?_, fun _ => by simp⟩
  · rcases Nat.lt_or_ge j ns.length with hl | hl
    · rw [List.getElem?_append_left hl] at hj
      exact h.nodes j m hj
    · rw [List.getElem?_append_right hl] at hj
      have hj0 := lt_of_get hj
      simp only [List.length_singleton] at hj0
      have : j = ns.length := by omega
      subst this
      rw [Nat.sub_self] at hj
      cases hj
      exact hn
  · have hp := h.perm
    rw [hf] at hp
    rw [List.length_append, List.length_singleton, upTo_succ, List.flatMap_append, List.flatMap_singleton]
    refine List.Perm.trans ?_ (hp.append_right _)
    rw [List.append_assoc, List.append_assoc]
    refine List.Perm.append_left _ ?_
    rw [← List.append_assoc]
    exact List.Perm.append_right _ List.perm_append_comm
theorem Stack.valid {ns : List NodeD} {r : Int} (h : Stack ns [r]) (h1 : 1 ≤ ns.length) (h2 : ns.length ≤ 16) : validS ns = true := by
  have hr : r = (ns.length : Int) - 1 := by
    have := h.last (fun e => by rw [e] at h1; simp at h1)
    simpa using this
  unfold validS
  simp only [Bool.and_eq_true]
  refine ⟨inR_iff.2 (by omega), ?_, ?_⟩
  · exact okUp_all fun j n _ hj => h.nodes j n hj
  · refine List.all_eq_true.2 fun x hx => ?_
    obtain ⟨p, hp, rfl⟩ := List.mem_iff_getElem.1 hx
    have hul : (usesAt ns ns.length).length = ns.length := by
      unfold usesAt
      rw [uses_len, List.length_replicate]
    rw [List.length_take, hul] at hp
    rw [List.getElem_take]
    have hu := uses_get ns (List.replicate ns.length 0) h.kids p (by rw [List.length_replicate]; omega)
    have e0 : usesAt ns ns.length = usesOf ns (List.replicate ns.length 0) := by unfold usesAt; rw [List.take_length]
    have hpp : p < (usesAt ns ns.length).length := by rw [hul]; omega
    have hc : (ns.flatMap kidsN ++ [r]).count (p : Int) = 1 := by rw [h.perm.count_eq]; exact upTo_count _ _ (by omega)
    rw [List.count_append, List.count_cons, List.count_nil, beq_eq_false_iff_ne.2 (by omega), if_neg (by decide)] at hc
    rw [← e0, List.getElem?_eq_getElem hpp] at hu
    rw [Option.some.inj hu, List.getElem_replicate]
    simp only [beq_iff_eq]
    omega

def quartV (n : Int) : Nat := fdiv .f32 (FloatKind.f32.nearest n) 1082130432
def sixtV (n : Int) : Nat := fdiv .f32 (FloatKind.f32.nearest n) 1098907648
def sizeV (x : Nat) : Nat := bif fle .f32 x 0 then fsub .f32 0 x else x
theorem tab_small : (List.range 33).all (fun j => finN (quartV (Int.ofNat j - 16)) && (finN (sizeV (quartV (Int.ofNat j - 16))) && !flt .f32 (sizeV (quartV (Int.ofNat j - 16))) 0)) = true := by decide +kernel
theorem tab_pos : (List.range 8).all (fun j => finN (quartV (1 + Int.ofNat j)) && !fle .f32 (quartV (1 + Int.ofNat j)) 0) = true := by decide +kernel
theorem tab_turn : (List.range 17).all (fun j => finN (sixtV (Int.ofNat j - 8))) = true := by decide +kernel
theorem small_fin {n : Int} (h : 0 ≤ n ∧ n < 33) : finN (quartV (n - 16)) = true ∧ finN (sizeV (quartV (n - 16))) = true ∧ flt .f32 (sizeV (quartV (n - 16))) 0 = false := by
  obtain ⟨m, rfl⟩ : ∃ m : Nat, n = Int.ofNat m := ⟨n.toNat, (Int.toNat_of_nonneg h.1).symm⟩
  have hm : m < 33 := by have h2 : (m : Int) < 33 := h.2; omega
  have := List.all_eq_true.1 tab_small m (List.mem_range.2 hm)
  simp only [Bool.and_eq_true, Bool.not_eq_true'] at this
  exact this
theorem pos_fin {n : Int} (h : 0 ≤ n ∧ n < 8) : finN (quartV (1 + n)) = true ∧ fle .f32 (quartV (1 + n)) 0 = false := by
  obtain ⟨m, rfl⟩ : ∃ m : Nat, n = Int.ofNat m := ⟨n.toNat, (Int.toNat_of_nonneg h.1).symm⟩
  have hm : m < 8 := by have h2 : (m : Int) < 8 := h.2; omega
  have := List.all_eq_true.1 tab_pos m (List.mem_range.2 hm)
  simp only [Bool.and_eq_true, Bool.not_eq_true'] at this
  exact this
theorem turn_fin {n : Int} (h : 0 ≤ n ∧ n < 17) : finN (sixtV (n - 8)) = true := by
  obtain ⟨m, rfl⟩ : ∃ m : Nat, n = Int.ofNat m := ⟨n.toNat, (Int.toNat_of_nonneg h.1).symm⟩
  have hm : m < 17 := by have h2 : (m : Int) < 17 := h.2; omega
  exact List.all_eq_true.1 tab_turn m (List.mem_range.2 hm)
def numB (k : Int) (x : Nat) : Bool := finN x && !sgnB (kindS k) x
theorem nums_of {k : Int} (hk : isK k = true) {xs : List Nat} (hl : (xs.length : Int) = kindN k) (h : ∀ x ∈ xs, numB k x = true) : numsB k xs = true := by
  unfold numsB
  rw [hk, hl, beq_self_eq_true, Bool.true_and, Bool.true_and]
  have h1 : xs.any (fun x => !finN x) = false := List.any_eq_false.2 fun x hx => by
    have := h x hx
    unfold numB at this
    simp only [Bool.and_eq_true] at this
    simp [this.1]
  have h2 : xs.any (fun x => sgnB (kindS k) x) = false := List.any_eq_false.2 fun x hx => by
    have := h x hx
    unfold numB at this
    simp only [Bool.and_eq_true, Bool.not_eq_true'] at this
    simp [this.2]
  rw [h1, h2]
  rfl

end Go.Proofs.Ytfhpmcdbfebflaa

/- Plain: what the laws draw: numbers, nodes, shapes, keys, things, scenes; all are valid. -/
set_option linter.unusedVariables false
set_option linter.unusedSimpArgs false
set_option maxRecDepth 100000
namespace Go.Proofs.Ytfhpmcdbfebflaa
open Go.Ev

def inS (n : Int) (s : SrcD) : Bool := decide (0 ≤ s.2.1) && decide (s.2.1 ≤ n)
theorem inS_iff {n : Int} {s : SrcD} : inS n s = true ↔ 0 ≤ s.2.1 ∧ s.2.1 ≤ n := by unfold inS; simp
theorem inS_src {n : Int} {s : SrcD} (h : inS n s = true) (hn : n ≤ 1152921504606846976) (L : Nat) (hL : 1 ≤ L) : srcIn L s = true := by
  rw [inS_iff] at h
  rw [srcIn_iff]
  have : (1152921504606846976 : Int) ≤ (L : Int) * 1152921504606846976 := by omega
  omega
structure Far (s t : SrcD) (n : Int) : Prop where
  b : t.1 = s.1
  lo : s.2.1 ≤ t.2.1
  hi : t.2.1 ≤ s.2.1 + n
theorem Far.refl (s : SrcD) : Far s s 0 := ⟨rfl, Int.le_refl _, by omega⟩
theorem Far.trans {s t u : SrcD} {n m : Int} (h : Far s t n) (h' : Far t u m) : Far s u (n + m) := ⟨h'.b.trans h.b, by have := h.lo; have := h'.lo; omega, by have := h.hi; have := h'.hi; omega⟩
theorem Far.mono {s t : SrcD} {n m : Int} (h : Far s t n) (hm : n ≤ m) : Far s t m := ⟨h.b, h.lo, by have := h.hi; omega⟩
theorem Far.ok {s t : SrcD} {n k m : Int} (h : Far s t n) (hs : inS k s = true) (hm : k + n ≤ m) : inS m t = true := by
  rw [inS_iff] at hs ⊢
  have := h.lo; have := h.hi; omega
theorem Far.bytes {s t : SrcD} {n : Int} (h : Far s t n) (hb : bytes s.1) : bytes t.1 := by rw [h.b]; exact hb
theorem far_pick (s : SrcD) (n : Int) : Far s (pickS s n) 2 := ⟨pickS_1 s n, (pickS_at s n).1, (pickS_at s n).2⟩

def smallV (s : SrcD) : Nat := quartV (pickV s 33 - 16)
def smallS (s : SrcD) : SrcD := pickS s 33
theorem far_small (s : SrcD) : Far s (smallS s) 2 := far_pick s 33
def sizeK (k : Int) : Bool := kindS k == 1
def posK (k : Int) : Bool := kindS k == 2
def nuV (k : Int) (s : SrcD) : Nat := bif sizeK k then sizeV (smallV s) else bif posK k then quartV (1 + pickV (smallS s) 8) else bif k == 12 then sixtV (pickV (smallS s) 17 - 8) else smallV s
def nuS (k : Int) (s : SrcD) : SrcD := bif sizeK k then smallS s else bif posK k then pickS (smallS s) 8 else bif k == 12 then pickS (smallS s) 17 else smallS s
theorem far_nu (k : Int) (s : SrcD) : Far s (nuS k s) 4 := by
  unfold nuS
  cases sizeK k with
  | true => exact (far_small s).mono (by omega)
  | false =>
    cases posK k with
    | true => exact (far_small s).trans (far_pick _ 8)
    | false =>
      cases k == 12 with
      | true => exact (far_small s).trans (far_pick _ 17)
      | false => exact (far_small s).mono (by omega)
theorem nu_ok {k : Int} (hk : isK k = true) {s : SrcD} (hb : bytes s.1) : numB k (nuV k s) = true := by
  have b1 := (far_small s).bytes hb
  obtain ⟨a1, a2, a3⟩ := small_fin (pickV_range (s := s) hb (n := 33) (by omega))
  obtain ⟨p1, p2⟩ := pos_fin (pickV_range (s := smallS s) b1 (n := 8) (by omega))
  have t1 := turn_fin (pickV_range (s := smallS s) b1 (n := 17) (by omega))
  unfold numB nuV
  cases h1 : sizeK k with
  | true =>
    have e : kindS k = 1 := by unfold sizeK at h1; simpa using h1
    rw [cond_true, e]
    unfold sgnB smallV
    rw [a2, a3]
    rfl
  | false =>
    cases h2 : posK k with
    | true =>
      have e : kindS k = 2 := by unfold posK at h2; simpa using h2
      rw [cond_true, cond_false, e]
      unfold sgnB
      rw [p1, p2]
      rfl
    | false =>
      have hs : ∀ x, sgnB (kindS k) x = false := fun x => by
        unfold sgnB
        unfold sizeK at h1
        unfold posK at h2
        rw [h1, h2]
        rfl
      rw [hs, cond_false, cond_false]
      cases k == 12 with
      | true => rw [cond_true, t1]; rfl
      | false =>
        rw [cond_false]
        unfold smallV
        rw [a1]; rfl
def nusL : Int → Nat → SrcD → List Nat
  | _, 0, _ => []
  | k, n + 1, s => nuV k s :: nusL k n (nuS k s)
def nusN : Int → Nat → SrcD → SrcD
  | _, 0, s => s
  | k, n + 1, s => nusN k n (nuS k s)
def numsV (k : Int) (s : SrcD) : List Nat := nusL k (kindN k).toNat s
def numsS (k : Int) (s : SrcD) : SrcD := nusN k (kindN k).toNat s
theorem far_nus (k : Int) : ∀ (n : Nat) (s : SrcD), Far s (nusN k n s) (4 * n)
  | 0, s => (Far.refl s).mono (by omega)
  | n + 1, s => ((far_nu k s).trans (far_nus k n (nuS k s))).mono (by omega)
theorem nus_len (k : Int) : ∀ (n : Nat) (s : SrcD), (nusL k n s).length = n
  | 0, _ => rfl
  | n + 1, s => by rw [nusL, List.length_cons, nus_len k n]
theorem nus_ok {k : Int} (hk : isK k = true) : ∀ (n : Nat) {s : SrcD}, bytes s.1 → ∀ x ∈ nusL k n s, numB k x = true
  | 0, s, _, x, h => by cases h
  | n + 1, s, hb, x, h => by
    rw [nusL] at h
    rcases List.mem_cons.1 h with rfl | h
    · exact nu_ok hk hb
    · exact nus_ok hk n ((far_nu k s).bytes hb) x h
theorem kindN_ok (k : Int) : 0 ≤ kindN k ∧ kindN k ≤ 4 := by
  cases h : isK k with
  | false => unfold kindN; rw [kindV_no h]; decide
  | true =>
    rcases kinds h with r | r | r | r | r | r | r | r | r | r | r | r | r | r | r | r | r <;> subst r <;> decide
theorem far_nums (k : Int) (s : SrcD) : Far s (numsS k s) 16 := (far_nus k _ s).mono (by have := kindN_ok k; omega)
theorem nums_ok {k : Int} (hk : isK k = true) {s : SrcD} (hb : bytes s.1) : numsB k (numsV k s) = true := by
  have := kindN_ok k
  exact nums_of hk (by unfold numsV; rw [nus_len]; omega) (nus_ok hk _ hb)

def dn2 (f : List Int) (s : SrcD) : Bool := decide (2 ≤ f.length) && pickV (pickS s 5) 2 == 0
def dnS1 (f : List Int) (s : SrcD) : SrcD := bif decide (2 ≤ f.length) then pickS (pickS s 5) 2 else pickS s 5
def dn1 (f : List Int) (s : SrcD) : Bool := decide (1 ≤ f.length) && pickV (dnS1 f s) 2 == 0
def dnS2 (f : List Int) (s : SrcD) : SrcD := bif decide (1 ≤ f.length) then pickS (dnS1 f s) 2 else dnS1 f s
def dnK (f : List Int) (s : SrcD) : Int := bif dn2 f s then 5 + pickV (dnS1 f s) 4 else bif dn1 f s then 9 + pickV (dnS2 f s) 8 else pickV s 5
def dnX (f : List Int) (s : SrcD) : Bool := inR (dnK f s) 12 14
def dnT (f : List Int) (s : SrcD) : SrcD := bif dn2 f s then pickS (dnS1 f s) 4 else bif dn1 f s then (bif dnX f s then pickS (pickS (dnS2 f s) 8) 3 else pickS (dnS2 f s) 8) else dnS2 f s
def at2 (f : List Int) (i : Nat) : Int := (f[f.length - i]?).getD 0
def dnA (f : List Int) (s : SrcD) : Int := bif dn2 f s then at2 f 2 else bif dn1 f s then at2 f 1 else 0
def dnB (f : List Int) (s : SrcD) : Int := bif dn2 f s then at2 f 1 else bif dn1 f s then (bif dnX f s then pickV (pickS (dnS2 f s) 8) 3 else 0) else 0
def usedV (f : List Int) (s : SrcD) : Int := bif dn2 f s then 2 else bif dn1 f s then 1 else 0
def nodeV (f : List Int) (s : SrcD) : NodeD := (dnK f s, dnA f s, dnB f s, numsV (dnK f s) (dnT f s))
def nodeS (f : List Int) (s : SrcD) : SrcD := numsS (dnK f s) (dnT f s)
theorem far_S1 (f : List Int) (s : SrcD) : Far s (dnS1 f s) 4 := by
  unfold dnS1
  cases decide (2 ≤ f.length) with
  | true => exact (far_pick s 5).trans (far_pick _ 2)
  | false => exact (far_pick s 5).mono (by omega)
theorem far_S2 (f : List Int) (s : SrcD) : Far s (dnS2 f s) 6 := by
  unfold dnS2
  cases decide (1 ≤ f.length) with
  | true => exact (far_S1 f s).trans (far_pick _ 2)
  | false => exact (far_S1 f s).mono (by omega)
theorem far_T (f : List Int) (s : SrcD) : Far s (dnT f s) 10 := by
  unfold dnT
  cases dn2 f s with
  | true => exact ((far_S1 f s).trans (far_pick _ 4)).mono (by omega)
  | false =>
    cases dn1 f s with
    | true =>
      cases dnX f s with
      | true => exact ((far_S2 f s).trans (far_pick _ 8)).trans (far_pick _ 3)
      | false => exact ((far_S2 f s).trans (far_pick _ 8)).mono (by omega)
    | false => exact (far_S2 f s).mono (by omega)
theorem far_node (f : List Int) (s : SrcD) : Far s (nodeS f s) 26 := (far_T f s).trans (far_nums _ _)
theorem dnK_range (f : List Int) {s : SrcD} (hb : bytes s.1) : (dn2 f s = true → 5 ≤ dnK f s ∧ dnK f s ≤ 8) ∧ (dn2 f s = false → dn1 f s = true → 9 ≤ dnK f s ∧ dnK f s ≤ 16) ∧ (dn2 f s = false → dn1 f s = false → 0 ≤ dnK f s ∧ dnK f s ≤ 4) := by
  have r1 := pickV_range (s := dnS1 f s) ((far_S1 f s).bytes hb) (n := 4) (by omega)
  have r2 := pickV_range (s := dnS2 f s) ((far_S2 f s).bytes hb) (n := 8) (by omega)
  have r3 := pickV_range (s := s) hb (n := 5) (by omega)
  unfold dnK
  refine ⟨fun h => ?_, fun h h' => ?_, fun h h' => ?_⟩
  · rw [h, cond_true]; omega
  · rw [h, h', cond_true, cond_false]; omega
  · rw [h, h', cond_false, cond_false]; omega
theorem dnK_is (f : List Int) {s : SrcD} (hb : bytes s.1) : isK (dnK f s) = true := by
  obtain ⟨h1, h2, h3⟩ := dnK_range f hb
  refine inR_iff.2 ?_
  cases e : dn2 f s with
  | true => have := h1 e; omega
  | false =>
    cases e2 : dn1 f s with
    | true => have := h2 e e2; omega
    | false => have := h3 e e2; omega
theorem kinds_two : ∀ k : Int, 5 ≤ k ∧ k ≤ 8 → kindC k = 2 := fun k h => by
  have : k = 5 ∨ k = 6 ∨ k = 7 ∨ k = 8 := by omega
  rcases this with r | r | r | r <;> subst r <;> decide
theorem kinds_one : ∀ k : Int, 9 ≤ k ∧ k ≤ 16 → kindC k = 1 ∧ (inR k 12 14 = true → kindA k = true) := fun k h => by
  have : k = 9 ∨ k = 10 ∨ k = 11 ∨ k = 12 ∨ k = 13 ∨ k = 14 ∨ k = 15 ∨ k = 16 := by omega
  rcases this with r | r | r | r | r | r | r | r <;> subst r <;> decide
theorem kinds_leaf : ∀ k : Int, 0 ≤ k ∧ k ≤ 4 → kindC k = 0 := fun k h => by
  have : k = 0 ∨ k = 1 ∨ k = 2 ∨ k = 3 ∨ k = 4 := by omega
  rcases this with r | r | r | r | r <;> subst r <;> decide
theorem last2 (f : List Int) (h : 2 ≤ f.length) : f = f.take (f.length - 2) ++ [at2 f 2, at2 f 1] := by
  have h1 : f.length - 2 < f.length := by omega
  have h2 : f.length - 1 < f.length := by omega
  conv => lhs; rw [← List.take_append_drop (f.length - 2) f]
  rw [List.drop_eq_getElem_cons h1]
  have e : f.length - 2 + 1 = f.length - 1 := by omega
  rw [e, List.drop_eq_getElem_cons h2, List.drop_of_length_le (by omega)]
  unfold at2
  rw [get_lt h1, get_lt h2]
  rfl
theorem last1 (f : List Int) (h : 1 ≤ f.length) : f = f.take (f.length - 1) ++ [at2 f 1] := by
  have h2 : f.length - 1 < f.length := by omega
  conv => lhs; rw [← List.take_append_drop (f.length - 1) f]
  rw [List.drop_eq_getElem_cons h2, List.drop_of_length_le (by omega)]
  unfold at2
  rw [get_lt h2]
  rfl
theorem used_range (f : List Int) (s : SrcD) : 0 ≤ usedV f s ∧ usedV f s ≤ f.length := by
  unfold usedV dn2 dn1
  by_cases h2 : 2 ≤ f.length
  · cases pickV (pickS s 5) 2 == 0 <;> cases pickV (dnS1 f s) 2 == 0 <;> simp only [d_t h2, d_t (show 1 ≤ f.length by omega), Bool.and_true, Bool.and_false, cond_true, cond_false] <;> omega
  · by_cases h1 : 1 ≤ f.length
    · cases pickV (dnS1 f s) 2 == 0 <;> simp only [d_f h2, d_t h1, Bool.and_true, Bool.and_false, Bool.false_and, cond_true, cond_false] <;> omega
    · simp only [d_f h2, d_f h1, Bool.false_and, cond_false]; omega
theorem at2_mem (f : List Int) (i : Nat) (h1 : 1 ≤ i) (h : i ≤ f.length) : at2 f i ∈ f := by
  unfold at2
  rw [get_lt (show f.length - i < f.length by omega)]
  exact List.getElem_mem _
theorem stack_node {ns : List NodeD} {f : List Int} (h : Stack ns f) {s : SrcD} (hb : bytes s.1) : Stack (ns ++ [nodeV f s]) (f.take ((f.length : Int) - usedV f s).toNat ++ [(ns.length : Int)]) := by
  obtain ⟨h1, h2, h3⟩ := dnK_range f hb
  have hk := dnK_is f hb
  have hn := nums_ok hk ((far_T f s).bytes hb)
  have kid : ∀ c ∈ f, inR c 0 ((ns.length : Int) - 1) = true := fun c hc => by
    have := h.free c hc
    exact inR_iff.2 (by omega)
  unfold usedV
  cases e : dn2 f s with
  | true =>
    have hl : 2 ≤ f.length := by unfold dn2 at e; simp only [Bool.and_eq_true, decide_eq_true_eq] at e; exact e.1
    have hc := kinds_two _ (h1 e)
    have hkid : kidsN (nodeV f s) = [at2 f 2, at2 f 1] := by
      show kids (dnK f s) (dnA f s) (dnB f s) = _
      unfold kids dnA dnB
      rw [hc, e]
      rfl
    have hsp := last2 f hl
    rw [cond_true, show ((f.length : Int) - 2).toNat = f.length - 2 by omega]
    refine h.push (by rw [hkid]; exact hsp) ?_
    unfold nodeB
    rw [hkid]
    show (numsB (dnK f s) (numsV (dnK f s) (dnT f s)) && (axB (dnK f s) (dnA f s) (dnB f s) && _)) = true
    rw [hn]
    unfold axB
    rw [hc]
    simp only [List.all_cons, List.all_nil, Bool.and_true, Bool.true_and]
    rw [kid _ (at2_mem f 2 (by omega) hl), kid _ (at2_mem f 1 (by omega) (by omega))]
    rfl
  | false =>
    cases e2 : dn1 f s with
    | true =>
      have hl : 1 ≤ f.length := by unfold dn1 at e2; simp only [Bool.and_eq_true, decide_eq_true_eq] at e2; exact e2.1
      obtain ⟨hc, hax⟩ := kinds_one _ (h2 e e2)
      have hkid : kidsN (nodeV f s) = [at2 f 1] := by
        show kids (dnK f s) (dnA f s) (dnB f s) = _
        unfold kids dnA
        rw [hc, e, e2]
        rfl
      have hsp := last1 f hl
      rw [cond_true, cond_false, show ((f.length : Int) - 1).toNat = f.length - 1 by omega]
      refine h.push (by rw [hkid]; exact hsp) ?_
      unfold nodeB
      rw [hkid]
      show (numsB (dnK f s) (numsV (dnK f s) (dnT f s)) && (axB (dnK f s) (dnA f s) (dnB f s) && _)) = true
      have hbx : axB (dnK f s) (dnA f s) (dnB f s) = true := by
        unfold axB
        rw [hc]
        unfold dnB
        rw [e, e2]
        simp only [cond_true, cond_false]
        cases ex : dnX f s with
        | true =>
          have r3 := pickV_range (s := pickS (dnS2 f s) 8) (((far_S2 f s).trans (far_pick _ 8)).bytes hb) (n := 3) (by omega)
          rw [cond_true, hax ex, inR_iff.2 (show 0 ≤ pickV (pickS (dnS2 f s) 8) 3 ∧ pickV (pickS (dnS2 f s) 8) 3 ≤ 2 by omega)]
          simp
        | false => rw [cond_false]; rfl
      rw [hn, hbx]
      simp only [List.all_cons, List.all_nil, Bool.and_true, Bool.true_and]
      exact kid _ (at2_mem f 1 (by omega) hl)
    | false =>
      have hc := kinds_leaf _ (h3 e e2)
      have hkid : kidsN (nodeV f s) = [] := by
        show kids (dnK f s) (dnA f s) (dnB f s) = _
        unfold kids
        rw [hc]
        rfl
      rw [cond_false, cond_false, show ((f.length : Int) - 0).toNat = f.length by omega, List.take_length]
      refine h.push (by rw [hkid, List.append_nil]) ?_
      unfold nodeB
      rw [hkid]
      show (numsB (dnK f s) (numsV (dnK f s) (dnT f s)) && (axB (dnK f s) (dnA f s) (dnB f s) && _)) = true
      have hbx : axB (dnK f s) (dnA f s) (dnB f s) = true := by
        unfold axB
        rw [hc]
        unfold dnA dnB
        rw [e, e2]
        rfl
      rw [hn, hbx]
      rfl

abbrev ShD := List NodeD × List Int × SrcD
def shStep (q : ShD) : ShD := (q.1 ++ [nodeV q.2.1 q.2.2], q.2.1.take ((q.2.1.length : Int) - usedV q.2.1 q.2.2).toNat ++ [(q.1.length : Int)], nodeS q.2.1 q.2.2)
def shGo : Nat → ShD → ShD
  | 0, q => q
  | n + 1, q => shGo n (shStep q)
def clNode (q : ShD) : NodeD := (5 + pickV q.2.2 3, at2 q.2.1 2, at2 q.2.1 1, [])
def clStep (q : ShD) : ShD := (q.1 ++ [clNode q], q.2.1.take (q.2.1.length - 2) ++ [(q.1.length : Int)], pickS q.2.2 3)
def clGo : Nat → ShD → ShD
  | 0, q => q
  | n + 1, q => clGo n (clStep q)
def sh0 (s : SrcD) : ShD := ([], [], pickS s 7)
def sh1 (s : SrcD) : ShD := shGo (1 + pickV s 7).toNat (sh0 s)
def sh2 (s : SrcD) : ShD := clGo ((sh1 s).2.1.length - 1) (sh1 s)
def shapeV (s : SrcD) : List NodeD := (sh2 s).1
def shapeS (s : SrcD) : SrcD := (sh2 s).2.2
structure ShOk (q : ShD) (n : Nat) : Prop where
  st : Stack q.1 q.2.1
  b : bytes q.2.2.1
  l : q.1.length = n
theorem shStep_ok {q : ShD} {n : Nat} (h : ShOk q n) : ShOk (shStep q) (n + 1) := ⟨stack_node h.st h.b, (far_node _ _).bytes h.b, by show (q.1 ++ [_]).length = _; rw [List.length_append, h.l]; rfl⟩
theorem clStep_ok {q : ShD} {n : Nat} (h : ShOk q n) (hf : 2 ≤ q.2.1.length) : ShOk (clStep q) (n + 1) := by
  refine ⟨?_, (far_pick _ _).bytes h.b, by show (q.1 ++ [_]).length = _; rw [List.length_append, h.l]; rfl⟩
  have r := pickV_range (s := q.2.2) h.b (n := 3) (by omega)
  have hc := kinds_two (5 + pickV q.2.2 3) (by omega)
  have hsp := last2 q.2.1 hf
  have hkid : kidsN (clNode q) = [at2 q.2.1 2, at2 q.2.1 1] := by
    show kids (5 + pickV q.2.2 3) _ _ = _
    unfold kids
    rw [hc]
    rfl
  have kid : ∀ c ∈ q.2.1, inR c 0 ((q.1.length : Int) - 1) = true := fun c hc => by
    have := h.st.free c hc
    exact inR_iff.2 (by omega)
  refine h.st.push (by rw [hkid]; exact hsp) ?_
  unfold nodeB
  rw [hkid]
  have hn : numsB (clNode q).1 (clNode q).2.2.2 = true := by
    have : 5 + pickV q.2.2 3 = 5 ∨ 5 + pickV q.2.2 3 = 6 ∨ 5 + pickV q.2.2 3 = 7 := by omega
    show numsB (5 + pickV q.2.2 3) [] = true
    rcases this with e | e | e <;> rw [e] <;> decide
  have hbx : axB (clNode q).1 (clNode q).2.1 (clNode q).2.2.1 = true := by
    show axB (5 + pickV q.2.2 3) _ _ = true
    unfold axB
    rw [hc]
    rfl
  rw [hn, hbx]
  simp only [List.all_cons, List.all_nil, Bool.and_true, Bool.true_and]
  rw [kid _ (at2_mem q.2.1 2 (by omega) hf), kid _ (at2_mem q.2.1 1 (by omega) (by omega))]
  rfl
theorem shGo_ok : ∀ (m : Nat) {q : ShD} {n : Nat}, ShOk q n → ShOk (shGo m q) (n + m)
  | 0, _, _, h => h
  | m + 1, q, n, h => by have := shGo_ok m (shStep_ok h); rw [show n + 1 + m = n + (m + 1) by omega] at this; exact this
theorem clStep_free (q : ShD) (hf : 2 ≤ q.2.1.length) : (clStep q).2.1.length = q.2.1.length - 1 := by
  show (q.2.1.take (q.2.1.length - 2) ++ [(q.1.length : Int)]).length = _
  rw [List.length_append, List.length_take, List.length_singleton]
  omega
theorem clGo_ok : ∀ (m : Nat) {q : ShD} {n : Nat}, ShOk q n → q.2.1.length = m + 1 → ShOk (clGo m q) (n + m) ∧ (clGo m q).2.1.length = 1
  | 0, _, _, h, e => ⟨h, e⟩
  | m + 1, q, n, h, e => by
    have := clGo_ok m (clStep_ok h (by omega)) (by rw [clStep_free q (by omega)]; omega)
    rw [show n + 1 + m = n + (m + 1) by omega] at this
    exact this
theorem sh0_ok {s : SrcD} (hb : bytes s.1) : ShOk (sh0 s) 0 := ⟨stack_nil, (far_pick s 7).bytes hb, rfl⟩
theorem sh1_ok {s : SrcD} (hb : bytes s.1) : ∃ n : Nat, (1 + pickV s 7) = (n : Int) ∧ 1 ≤ n ∧ n ≤ 7 ∧ ShOk (sh1 s) n ∧ 1 ≤ (sh1 s).2.1.length ∧ (sh1 s).2.1.length ≤ n := by
  have r := pickV_range (s := s) hb (n := 7) (by omega)
  refine ⟨(1 + pickV s 7).toNat, by omega, by omega, by omega, ?_, ?_, ?_⟩
  · have := shGo_ok (1 + pickV s 7).toNat (sh0_ok hb)
    rw [Nat.zero_add] at this
    exact this
  · have h := shGo_ok (1 + pickV s 7).toNat (sh0_ok hb)
    have hne : (sh1 s).1 ≠ [] := fun e => by
      have := h.l
      have e2 : (shGo (1 + pickV s 7).toNat (sh0 s)).1 = [] := e
      rw [e2] at this
      simp at this
      omega
    have := h.st.last hne
    show 1 ≤ (shGo (1 + pickV s 7).toNat (sh0 s)).2.1.length
    cases e : (shGo (1 + pickV s 7).toNat (sh0 s)).2.1 with
    | nil => rw [e] at this; simp at this
    | cons _ _ => simp
  · have h := shGo_ok (1 + pickV s 7).toNat (sh0_ok hb)
    have := h.st.len
    rw [h.l] at this
    show (shGo (1 + pickV s 7).toNat (sh0 s)).2.1.length ≤ _
    omega
theorem shape_ok {s : SrcD} (hb : bytes s.1) : validS (shapeV s) = true := by
  obtain ⟨n, e, n1, n2, h, f1, f2⟩ := sh1_ok hb
  obtain ⟨h2, h3⟩ := clGo_ok ((sh1 s).2.1.length - 1) h (by omega)
  obtain ⟨r, hr⟩ := List.length_eq_one_iff.1 h3
  have hs := h2.st
  rw [hr] at hs
  have hl := h2.l
  exact hs.valid (by omega) (by omega)
end Go.Proofs.Ytfhpmcdbfebflaa

