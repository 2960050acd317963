/- Boxes and ranges. -/
import Derived.Test.YtfdalaakechldaaGeo
import Derived.Test.YtfdalaakechldaaFlJ
import Derived.Test.YtfdalaakechldaaEvTwo
import Derived.Test.YtfdalaakechldaaIdx
set_option linter.unusedVariables false
set_option linter.unusedSimpArgs false
set_option maxRecDepth 100000
namespace Go.Proofs.Ytfdalaakechldaa
open Go.Ev Go.Ev.Fl

abbrev tX : Ty := .pair tV tV
abbrev tR2 : Ty := .pair tF tF
abbrev V6 := (Nat × Nat × Nat) × (Nat × Nat × Nat)
abbrev V2 := Nat × Nat

/-! impl.finite$1 -/
noncomputable def c_impl_finite_1 : Ctx := mkC Try.prog tyT [(38, s_impl_IsFinite)] [] [] 6 (fun _ => none) 0
theorem w_impl_finite_1 (x : Nat) (K : V → Heap → Prop) : wpFn c_impl_finite_1 Try.f37 (encAs [.cell tF] (x, ())) [] K =
  K (.bool (!isFin x)) [] := by kernel_rfl
noncomputable def s_impl_finite_1 : Sm := semT [.cell tF] fun x => match x with | (x, _) => .bool (!isFin x)
theorem ok_impl_finite_1 : FnOk Try.prog 37 s_impl_finite_1 := fnOk_typed (fnOk_runC (C := c_impl_finite_1) rfl mixed (.cons ok_impl_IsFinite .nil) .nil .nil Try.func37 (by kernel_rfl)) fun (x : ((Nat) × Unit)) wf K h => by
  obtain ⟨x, ⟨⟩⟩ := x
  replace h : K (.bool (!isFin x)) [] := h
  rw [w_impl_finite_1 x K]
  exact h

/-! slices.IndexFunc[[]float32,float32] -/
noncomputable def a_slices_IndexFunc__float32_vfin : Nat → Option Ann := fun n => bif Nat.beq n 2 then some ⟨[0,1,7,8],0,false⟩ else none
noncomputable def c_slices_IndexFunc__float32_vfin : Ctx := mkC Try.prog tyT [(37, s_impl_finite_1)] [] [] 19 a_slices_IndexFunc__float32_vfin 0
noncomputable def fr_slices_IndexFunc__float32_vfin_2 (xs : List (Nat)) (n i : Int) : Fr := [(0, .vec (tF) xs), (1, .fn 37 []), (7, .int .i64 n), (8, .int .i64 i)]
theorem r_slices_IndexFunc__float32_vfin_2 (xs : List (Nat)) (n i : Int) (Kn : Fr → Heap → Prop) (K : V → Heap → Prop) : round c_slices_IndexFunc__float32_vfin ⟨[0,1,7,8],0,false⟩ (lb c_slices_IndexFunc__float32_vfin 2 Try.f40) (fr_slices_IndexFunc__float32_vfin_2 xs n i) [] Kn (lk c_slices_IndexFunc__float32_vfin 2 Try.f40 [] K) =
  cond (decide (i < n))
    (cond (decide (0 ≤ i))
      ((match xs[Int.toNat i]? with
        | some y0 => cond (!isFin y0)
          (K (.int .i64 (i)) [])
          (Kn [(0, (.vec (.float .f32) (xs))), (1, (.fn 37 [])), (7, (.int .i64 (n))), (8, (.int .i64 (IntKind.wrap IntKind.i64 (i + 1))))] [])
        | none => False))
      (False))
    (K (.int .i64 (-1)) []) := by kernel_rfl
theorem w_slices_IndexFunc__float32_vfin (xs : List (Nat)) (K : V → Heap → Prop) : wpFn c_slices_IndexFunc__float32_vfin Try.f40 (encAs [.cell (.slice (tF)), .fn 37] (xs, (), ())) [] K =
  LoopE c_slices_IndexFunc__float32_vfin ⟨[0, 1, 7, 8], 0, false⟩ (lb c_slices_IndexFunc__float32_vfin 2 Try.f40) [(0, (.vec (.float .f32) (xs))), (1, (.fn 37 [])), (7, (.int .i64 ((↑(List.length xs) : Int)))), (8, (.int .i64 0))] [] (lk c_slices_IndexFunc__float32_vfin 2 Try.f40 [] K) := by kernel_rfl
noncomputable def s_slices_IndexFunc__float32_vfin : Sm := semT [.cell (.slice (tF)), .fn 37] fun x => match x with | (xs, _, _) => .int .i64 (idxF (fun x => !isFin x) xs)
theorem ok_slices_IndexFunc__float32_vfin : FnOk Try.prog 40 s_slices_IndexFunc__float32_vfin := fnOk_typed (fnOk_runC (C := c_slices_IndexFunc__float32_vfin) rfl mixed (.cons ok_impl_finite_1 .nil) .nil .nil Try.func40 (by kernel_rfl)) fun (x : ((List (Nat)) × Unit × Unit)) wf K h => by
  obtain ⟨xs, ⟨⟩, ⟨⟩⟩ := x
  replace h : K (.int .i64 (idxF (fun x => !isFin x) xs)) [] := h
  rw [w_slices_IndexFunc__float32_vfin xs K]
  obtain ⟨⟨wl, _⟩, _⟩ := wf
  have wl : xs.length ≤ 9223372036854775807 := wl
  refine loop_run (σ := Nat) (fun i => fr_slices_IndexFunc__float32_vfin_2 xs xs.length i) (fun _ => []) (fun i => i ≤ xs.length ∧ (xs.take i).any (fun x => !isFin x) = false) (fun i => xs.length - i) ?_ 0 ⟨Nat.zero_le _, rfl⟩
  intro i hi Kn hk
  rw [r_slices_IndexFunc__float32_vfin_2 xs xs.length i Kn K]
  by_cases hlt : i < xs.length
  · simp only [d_lt hlt, d_0, cond_true, Int.toNat_natCast, get_lt hlt]
    cases hp : (fun x => !isFin x) (xs[i]'hlt) with
    | true =>
      rw [idxF_hit hlt hi.2 hp] at h
      simp only at hp
      simp only [hp, cond_true]
      exact h
    | false =>
      have hn := any_snoc (f := (fun x => !isFin x)) hlt hi.2 hp
      simp only at hp
      simp only [hp, cond_false]
      rw [i64_of (by omega) (by omega)]
      exact hk (i + 1) ⟨hlt, hn⟩ (by omega)
  · simp only [d_nlt hlt, cond_false]
    have : i = xs.length := by omega
    subst this
    have ha := hi.2
    rw [List.take_length] at ha
    rw [idxF_none ha] at h
    exact h

/-! slices.ContainsFunc[[]float32,float32] -/
noncomputable def c_slices_ContainsFunc__float32_vfin : Ctx := mkC Try.prog tyT [(40, s_slices_IndexFunc__float32_vfin)] [] [] 9 (fun _ => none) 0
theorem w_slices_ContainsFunc__float32_vfin (xs : List (Nat)) (K : V → Heap → Prop) : wpFn c_slices_ContainsFunc__float32_vfin Try.f36 (encAs [.cell (.slice (tF)), .fn 37] (xs, (), ())) [] K =
  K (.bool (decide (idxF (fun x => !isFin x) xs ≥ 0))) [] := by kernel_rfl
noncomputable def s_slices_ContainsFunc__float32_vfin : Sm := semT [.cell (.slice (tF)), .fn 37] fun x => match x with | (xs, _, _) => .bool (xs.any (fun x => !isFin x))
theorem ok_slices_ContainsFunc__float32_vfin : FnOk Try.prog 36 s_slices_ContainsFunc__float32_vfin := fnOk_typed (fnOk_runC (C := c_slices_ContainsFunc__float32_vfin) rfl mixed (.cons ok_slices_IndexFunc__float32_vfin .nil) .nil .nil Try.func36 (by kernel_rfl)) fun (x : ((List (Nat)) × Unit × Unit)) wf K h => by
  obtain ⟨xs, ⟨⟩, ⟨⟩⟩ := x
  replace h : K (.bool (xs.any (fun x => !isFin x))) [] := h
  rw [w_slices_ContainsFunc__float32_vfin xs K]
  rw [idxF_ge]
  exact h


/-! impl.finite -/
noncomputable def c_impl_finite : Ctx := mkC Try.prog tyT [(36, s_slices_ContainsFunc__float32_vfin)] [] [] 6 (fun _ => none) 0
theorem w_impl_finite (xs : List Nat) (K : V → Heap → Prop) : wpFn c_impl_finite Try.f34 (encAs [.cell (.slice tF)] (xs, ())) [] K =
  K (.bool (!List.any xs fun x => !isFin x)) [] := by kernel_rfl
noncomputable def s_impl_finite : Sm := semT [.cell (.slice tF)] fun x => match x with | (xs, _) => .bool (!xs.any (fun x => !isFin x))
theorem ok_impl_finite : FnOk Try.prog 34 s_impl_finite := fnOk_typed (fnOk_runC (C := c_impl_finite) rfl mixed (.cons ok_slices_ContainsFunc__float32_vfin .nil) .nil .nil Try.func34 (by kernel_rfl)) fun (x : ((List Nat) × Unit)) wf K h => by
  obtain ⟨xs, ⟨⟩⟩ := x
  replace h : K (.bool (!xs.any (fun x => !isFin x))) [] := h
  rw [w_impl_finite xs K]
  exact h

--B fin3 Nat × Nat × Nat → Bool
def fin3 (u : V3) : Bool := isFin u.1 && (isFin u.2.1 && isFin u.2.2)
/-! impl.finiteVector -/
noncomputable def c_impl_finiteVector : Ctx := mkC Try.prog tyT [(34, s_impl_finite)] [] [] 11 (fun _ => none) 0
theorem w_impl_finiteVector (u : V3) (K : V → Heap → Prop) : wpFn c_impl_finiteVector Try.f28 (encAs [.agg tV] (u, ())) [] K =
  K (.bool (!List.any [Prod.fst u, Prod.fst (Prod.snd u), Prod.snd (Prod.snd u)] fun x => !isFin x)) [] := by kernel_rfl
noncomputable def s_impl_finiteVector : Sm := semT [.agg tV] fun x => match x with | (u, _) => .bool (fin3 u)
theorem ok_impl_finiteVector : FnOk Try.prog 28 s_impl_finiteVector := fnOk_typed (fnOk_runC (C := c_impl_finiteVector) rfl mixed (.cons ok_impl_finite .nil) .nil .nil Try.func28 (by kernel_rfl)) fun (x : ((V3) × Unit)) wf K h => by
  obtain ⟨u, ⟨⟩⟩ := x
  replace h : K (.bool (fin3 u)) [] := h
  rw [w_impl_finiteVector u K]
  have : (!List.any [u.1, u.2.1, u.2.2] fun x => !isFin x) = fin3 u := by
    unfold fin3
    simp only [List.any_cons, List.any_nil, Bool.not_or, Bool.not_not, Bool.not_false, Bool.and_true]
  rw [this]
  exact h

--B validB (Nat × Nat × Nat) × (Nat × Nat × Nat) → Bool
def validB (b : V6) : Bool := fin3 b.1 && (fin3 b.2 && (fle .f32 b.1.1 b.2.1 && (fle .f32 b.1.2.1 b.2.2.1 && fle .f32 b.1.2.2 b.2.2.2)))
/-! impl.ValidBox -/
noncomputable def c_impl_ValidBox : Ctx := mkC Try.prog tyT [(28, s_impl_finiteVector)] [] [] 38 (fun _ => none) 0
theorem w_impl_ValidBox (b : V6) (K : V → Heap → Prop) : wpFn c_impl_ValidBox Try.f19 (encAs [.agg tX] (b, ())) [] K =
  cond (fin3 (Prod.fst b))
    (cond (fin3 (Prod.snd b))
      (cond (fle FloatKind.f32 (Prod.fst (Prod.fst b)) (Prod.fst (Prod.snd b)))
        (cond (fle FloatKind.f32 (Prod.fst (Prod.snd (Prod.fst b))) (Prod.fst (Prod.snd (Prod.snd b))))
          (K (.bool (fle FloatKind.f32 (Prod.snd (Prod.snd (Prod.fst b))) (Prod.snd (Prod.snd (Prod.snd b))))) [])
          (K (.bool false) []))
        (K (.bool false) []))
      (K (.bool false) []))
    (K (.bool false) []) := by kernel_rfl
noncomputable def s_impl_ValidBox : Sm := semT [.agg tX] fun x => match x with | (b, _) => .bool (validB b)
theorem ok_impl_ValidBox : FnOk Try.prog 19 s_impl_ValidBox := fnOk_typed (fnOk_runC (C := c_impl_ValidBox) rfl mixed (.cons ok_impl_finiteVector .nil) .nil .nil Try.func19 (by kernel_rfl)) fun (x : ((V6) × Unit)) wf K h => by
  obtain ⟨b, ⟨⟩⟩ := x
  replace h : K (.bool (validB b)) [] := h
  rw [w_impl_ValidBox b K]
  unfold validB at h
  revert h
  cases fin3 b.1 <;> cases fin3 b.2 <;> cases fle .f32 b.1.1 b.2.1 <;> cases fle .f32 b.1.2.1 b.2.2.1 <;> exact id

--B inB (Nat × Nat × Nat) × (Nat × Nat × Nat) → Nat × Nat × Nat → Bool
def inB (b : V6) (p : V3) : Bool := validB b && (fge .f32 p.1 b.1.1 && (fge .f32 p.2.1 b.1.2.1 && (fge .f32 p.2.2 b.1.2.2 && (fle .f32 p.1 b.2.1 && (fle .f32 p.2.1 b.2.2.1 && fle .f32 p.2.2 b.2.2.2)))))
/-! impl.IsInBox -/
noncomputable def c_impl_IsInBox : Ctx := mkC Try.prog tyT [(19, s_impl_ValidBox)] [] [] 57 (fun _ => none) 0
theorem w_impl_IsInBox (b : V6) (p : V3) (K : V → Heap → Prop) : wpFn c_impl_IsInBox Try.f8 (encAs [.agg tX, .agg tV] (b, p, ())) [] K =
  cond (fge FloatKind.f32 (Prod.fst p) (Prod.fst (Prod.fst b)))
    (cond (fge FloatKind.f32 (Prod.fst (Prod.snd p)) (Prod.fst (Prod.snd (Prod.fst b))))
      (cond (fge FloatKind.f32 (Prod.snd (Prod.snd p)) (Prod.snd (Prod.snd (Prod.fst b))))
        (cond (fle FloatKind.f32 (Prod.fst p) (Prod.fst (Prod.snd b)))
          (cond (fle FloatKind.f32 (Prod.fst (Prod.snd p)) (Prod.fst (Prod.snd (Prod.snd b))))
            (cond (validB b)
              (K (.bool (fle FloatKind.f32 (Prod.snd (Prod.snd p)) (Prod.snd (Prod.snd (Prod.snd b))))) [])
              (K (.bool false) []))
            (cond (validB b)
              (K (.bool false) [])
              (K (.bool false) [])))
          (cond (validB b)
            (K (.bool false) [])
            (K (.bool false) [])))
        (cond (validB b)
          (K (.bool false) [])
          (K (.bool false) [])))
      (cond (validB b)
        (K (.bool false) [])
        (K (.bool false) [])))
    (cond (validB b)
      (K (.bool false) [])
      (K (.bool false) [])) := by kernel_rfl
noncomputable def s_impl_IsInBox : Sm := semT [.agg tX, .agg tV] fun x => match x with | (b, p, _) => .bool (inB b p)
theorem ok_impl_IsInBox : FnOk Try.prog 8 s_impl_IsInBox := fnOk_typed (fnOk_runC (C := c_impl_IsInBox) rfl mixed (.cons ok_impl_ValidBox .nil) .nil .nil Try.func8 (by kernel_rfl)) fun (x : ((V6) × (V3) × Unit)) wf K h => by
  obtain ⟨b, p, ⟨⟩⟩ := x
  replace h : K (.bool (inB b p)) [] := h
  rw [w_impl_IsInBox b p K]
  unfold inB at h
  revert h
  cases fge .f32 p.1 b.1.1 <;> cases fge .f32 p.2.1 b.1.2.1 <;> cases fge .f32 p.2.2 b.1.2.2 <;> cases fle .f32 p.1 b.2.1 <;> cases fle .f32 p.2.1 b.2.2.1 <;> cases validB b <;> exact id

--B toldB (Nat × Nat × Nat) × (Nat × Nat × Nat) → (Nat × Nat × Nat) × (Nat × Nat × Nat)
def toldB (b : V6) : V6 := bif validB b then b else ((0, 0, 0), (0, 0, 0))
/-! impl.toldBox -/
noncomputable def c_impl_toldBox : Ctx := mkC Try.prog tyT [(19, s_impl_ValidBox)] [] [] 9 (fun _ => none) 0
theorem w_impl_toldBox (b : V6) (K : V → Heap → Prop) : wpFn c_impl_toldBox Try.f23 (encAs [.agg tX] (b, ())) [] K =
  cond (!validB b)
    (K (.tuple [(.agg [(.float .f32 0), (.float .f32 0), (.float .f32 0), (.float .f32 0), (.float .f32 0), (.float .f32 0)]), (.bool false)]) [])
    (K (.tuple [(.agg [(.float .f32 (Prod.fst (Prod.fst b))), (.float .f32 (Prod.fst (Prod.snd (Prod.fst b)))), (.float .f32 (Prod.snd (Prod.snd (Prod.fst b)))), (.float .f32 (Prod.fst (Prod.snd b))), (.float .f32 (Prod.fst (Prod.snd (Prod.snd b)))), (.float .f32 (Prod.snd (Prod.snd (Prod.snd b))))]), (.bool true)]) []) := by kernel_rfl
noncomputable def s_impl_toldBox : Sm := semT [.agg tX] fun x => match x with | (b, _) => .tuple [.agg (enc tX (toldB b)), .bool (validB b)]
theorem ok_impl_toldBox : FnOk Try.prog 23 s_impl_toldBox := fnOk_typed (fnOk_runC (C := c_impl_toldBox) rfl mixed (.cons ok_impl_ValidBox .nil) .nil .nil Try.func23 (by kernel_rfl)) fun (x : ((V6) × Unit)) wf K h => by
  obtain ⟨b, ⟨⟩⟩ := x
  replace h : K (.tuple [.agg (enc tX (toldB b)), .bool (validB b)]) [] := h
  rw [w_impl_toldBox b K]
  unfold toldB at h
  revert h
  cases validB b <;> exact id

--B maxF Nat → Nat → Nat
def maxF (a b : Nat) : Nat := bif fgt .f32 b a then b else a
--B minF Nat → Nat → Nat
def minF (a b : Nat) : Nat := bif flt .f32 b a then b else a
/-! impl.greater -/
noncomputable def c_impl_greater : Ctx := mkC Try.prog tyT [] [] [] 10 (fun _ => none) 0
theorem w_impl_greater (a b : Nat) (K : V → Heap → Prop) : wpFn c_impl_greater Try.f25 (encAs [.cell tF, .cell tF] (a, b, ())) [] K =
  cond (fgt FloatKind.f32 b a)
    (K (.float .f32 (b)) [])
    (K (.float .f32 (a)) []) := by kernel_rfl
noncomputable def s_impl_greater : Sm := semT [.cell tF, .cell tF] fun x => match x with | (a, b, _) => .float .f32 (maxF a b)
theorem ok_impl_greater : FnOk Try.prog 25 s_impl_greater := fnOk_typed (fnOk_runC (C := c_impl_greater) rfl mixed .nil .nil .nil Try.func25 (by kernel_rfl)) fun (x : ((Nat) × (Nat) × Unit)) wf K h => by
  obtain ⟨a, b, ⟨⟩⟩ := x
  replace h : K (.float .f32 (maxF a b)) [] := h
  rw [w_impl_greater a b K]
  unfold maxF at h
  revert h
  cases fgt .f32 b a <;> exact id

/-! impl.lesser -/
noncomputable def c_impl_lesser : Ctx := mkC Try.prog tyT [] [] [] 10 (fun _ => none) 0
theorem w_impl_lesser (a b : Nat) (K : V → Heap → Prop) : wpFn c_impl_lesser Try.f26 (encAs [.cell tF, .cell tF] (a, b, ())) [] K =
  cond (flt FloatKind.f32 b a)
    (K (.float .f32 (b)) [])
    (K (.float .f32 (a)) []) := by kernel_rfl
noncomputable def s_impl_lesser : Sm := semT [.cell tF, .cell tF] fun x => match x with | (a, b, _) => .float .f32 (minF a b)
theorem ok_impl_lesser : FnOk Try.prog 26 s_impl_lesser := fnOk_typed (fnOk_runC (C := c_impl_lesser) rfl mixed .nil .nil .nil Try.func26 (by kernel_rfl)) fun (x : ((Nat) × (Nat) × Unit)) wf K h => by
  obtain ⟨a, b, ⟨⟩⟩ := x
  replace h : K (.float .f32 (minF a b)) [] := h
  rw [w_impl_lesser a b K]
  unfold minF at h
  revert h
  cases flt .f32 b a <;> exact id

/-! impl.each -/
noncomputable def c_impl_each_vg : Ctx := mkC Try.prog tyT [(25, s_impl_greater)] [] [] 26 (fun _ => none) 0
theorem w_impl_each_vg (a b : V3) (K : V → Heap → Prop) : wpFn c_impl_each_vg Try.f24 (encAs [.agg tV, .agg tV, .fn 25] (a, b, (), ())) [] K =
  K (.agg [(.float .f32 (maxF (Prod.fst a) (Prod.fst b))), (.float .f32 (maxF (Prod.fst (Prod.snd a)) (Prod.fst (Prod.snd b)))), (.float .f32 (maxF (Prod.snd (Prod.snd a)) (Prod.snd (Prod.snd b))))]) [] := by kernel_rfl
noncomputable def s_impl_each_vg : Sm := semT [.agg tV, .agg tV, .fn 25] fun x => match x with | (a, b, _, _) => .agg (enc tV (maxF a.1 b.1, maxF a.2.1 b.2.1, maxF a.2.2 b.2.2))
theorem ok_impl_each_vg : FnOk Try.prog 24 s_impl_each_vg := fnOk_typed (fnOk_runC (C := c_impl_each_vg) rfl mixed (.cons ok_impl_greater .nil) .nil .nil Try.func24 (by kernel_rfl)) fun (x : ((V3) × (V3) × Unit × Unit)) wf K h => by
  obtain ⟨a, b, ⟨⟩, ⟨⟩⟩ := x
  replace h : K (.agg (enc tV (maxF a.1 b.1, maxF a.2.1 b.2.1, maxF a.2.2 b.2.2))) [] := h
  rw [w_impl_each_vg a b K]
  exact h

/-! impl.each -/
noncomputable def c_impl_each_vl : Ctx := mkC Try.prog tyT [(26, s_impl_lesser)] [] [] 26 (fun _ => none) 0
theorem w_impl_each_vl (a b : V3) (K : V → Heap → Prop) : wpFn c_impl_each_vl Try.f24 (encAs [.agg tV, .agg tV, .fn 26] (a, b, (), ())) [] K =
  K (.agg [(.float .f32 (minF (Prod.fst a) (Prod.fst b))), (.float .f32 (minF (Prod.fst (Prod.snd a)) (Prod.fst (Prod.snd b)))), (.float .f32 (minF (Prod.snd (Prod.snd a)) (Prod.snd (Prod.snd b))))]) [] := by kernel_rfl
noncomputable def s_impl_each_vl : Sm := semT [.agg tV, .agg tV, .fn 26] fun x => match x with | (a, b, _, _) => .agg (enc tV (minF a.1 b.1, minF a.2.1 b.2.1, minF a.2.2 b.2.2))
theorem ok_impl_each_vl : FnOk Try.prog 24 s_impl_each_vl := fnOk_typed (fnOk_runC (C := c_impl_each_vl) rfl mixed (.cons ok_impl_lesser .nil) .nil .nil Try.func24 (by kernel_rfl)) fun (x : ((V3) × (V3) × Unit × Unit)) wf K h => by
  obtain ⟨a, b, ⟨⟩, ⟨⟩⟩ := x
  replace h : K (.agg (enc tV (minF a.1 b.1, minF a.2.1 b.2.1, minF a.2.2 b.2.2))) [] := h
  rw [w_impl_each_vl a b K]
  exact h

noncomputable abbrev s_impl_each : Sm := semTwo 2 25 s_impl_each_vg s_impl_each_vl
theorem ok_impl_each : FnOk Try.prog 24 s_impl_each := fnOk_two ok_impl_each_vg ok_impl_each_vl

def cutB (a b : V6) : V6 := ((maxF a.1.1 b.1.1, maxF a.1.2.1 b.1.2.1, maxF a.1.2.2 b.1.2.2), (minF a.2.1 b.2.1, minF a.2.2.1 b.2.2.1, minF a.2.2.2 b.2.2.2))
--B tolB (Nat × Nat × Nat) × (Nat × Nat × Nat) → (Nat × Nat × Nat) × (Nat × Nat × Nat) → (Nat × Nat × Nat) × (Nat × Nat × Nat)
def tolB (a b : V6) : V6 := toldB (cutB a b)
--B cutOk (Nat × Nat × Nat) × (Nat × Nat × Nat) → (Nat × Nat × Nat) × (Nat × Nat × Nat) → Bool
def cutOk (a b : V6) : Bool := validB (cutB a b)
/-! impl.CutBoxes -/
noncomputable def c_impl_CutBoxes : Ctx := mkC Try.prog tyT [(19, s_impl_ValidBox), (24, s_impl_each), (23, s_impl_toldBox)] [] [] 29 (fun _ => none) 0
theorem w_impl_CutBoxes (a b : V6) (K : V → Heap → Prop) : wpFn c_impl_CutBoxes Try.f10 (encAs [.agg tX, .agg tX] (a, b, ())) [] K =
  cond (!validB a)
    (K (.tuple [(.agg [(.float .f32 0), (.float .f32 0), (.float .f32 0), (.float .f32 0), (.float .f32 0), (.float .f32 0)]), (.bool false)]) [])
    (cond (!validB b)
      (K (.tuple [(.agg [(.float .f32 0), (.float .f32 0), (.float .f32 0), (.float .f32 0), (.float .f32 0), (.float .f32 0)]), (.bool false)]) [])
      (K (.tuple [(.agg [(.float .f32 (Prod.fst (Prod.fst (toldB ((maxF (Prod.fst (Prod.fst a)) (Prod.fst (Prod.fst b)), maxF (Prod.fst (Prod.snd (Prod.fst a))) (Prod.fst (Prod.snd (Prod.fst b))), maxF (Prod.snd (Prod.snd (Prod.fst a))) (Prod.snd (Prod.snd (Prod.fst b)))), minF (Prod.fst (Prod.snd a)) (Prod.fst (Prod.snd b)), minF (Prod.fst (Prod.snd (Prod.snd a))) (Prod.fst (Prod.snd (Prod.snd b))), minF (Prod.snd (Prod.snd (Prod.snd a))) (Prod.snd (Prod.snd (Prod.snd b)))))))), (.float .f32 (Prod.fst (Prod.snd (Prod.fst (toldB ((maxF (Prod.fst (Prod.fst a)) (Prod.fst (Prod.fst b)), maxF (Prod.fst (Prod.snd (Prod.fst a))) (Prod.fst (Prod.snd (Prod.fst b))), maxF (Prod.snd (Prod.snd (Prod.fst a))) (Prod.snd (Prod.snd (Prod.fst b)))), minF (Prod.fst (Prod.snd a)) (Prod.fst (Prod.snd b)), minF (Prod.fst (Prod.snd (Prod.snd a))) (Prod.fst (Prod.snd (Prod.snd b))), minF (Prod.snd (Prod.snd (Prod.snd a))) (Prod.snd (Prod.snd (Prod.snd b))))))))), (.float .f32 (Prod.snd (Prod.snd (Prod.fst (toldB ((maxF (Prod.fst (Prod.fst a)) (Prod.fst (Prod.fst b)), maxF (Prod.fst (Prod.snd (Prod.fst a))) (Prod.fst (Prod.snd (Prod.fst b))), maxF (Prod.snd (Prod.snd (Prod.fst a))) (Prod.snd (Prod.snd (Prod.fst b)))), minF (Prod.fst (Prod.snd a)) (Prod.fst (Prod.snd b)), minF (Prod.fst (Prod.snd (Prod.snd a))) (Prod.fst (Prod.snd (Prod.snd b))), minF (Prod.snd (Prod.snd (Prod.snd a))) (Prod.snd (Prod.snd (Prod.snd b))))))))), (.float .f32 (Prod.fst (Prod.snd (toldB ((maxF (Prod.fst (Prod.fst a)) (Prod.fst (Prod.fst b)), maxF (Prod.fst (Prod.snd (Prod.fst a))) (Prod.fst (Prod.snd (Prod.fst b))), maxF (Prod.snd (Prod.snd (Prod.fst a))) (Prod.snd (Prod.snd (Prod.fst b)))), minF (Prod.fst (Prod.snd a)) (Prod.fst (Prod.snd b)), minF (Prod.fst (Prod.snd (Prod.snd a))) (Prod.fst (Prod.snd (Prod.snd b))), minF (Prod.snd (Prod.snd (Prod.snd a))) (Prod.snd (Prod.snd (Prod.snd b)))))))), (.float .f32 (Prod.fst (Prod.snd (Prod.snd (toldB ((maxF (Prod.fst (Prod.fst a)) (Prod.fst (Prod.fst b)), maxF (Prod.fst (Prod.snd (Prod.fst a))) (Prod.fst (Prod.snd (Prod.fst b))), maxF (Prod.snd (Prod.snd (Prod.fst a))) (Prod.snd (Prod.snd (Prod.fst b)))), minF (Prod.fst (Prod.snd a)) (Prod.fst (Prod.snd b)), minF (Prod.fst (Prod.snd (Prod.snd a))) (Prod.fst (Prod.snd (Prod.snd b))), minF (Prod.snd (Prod.snd (Prod.snd a))) (Prod.snd (Prod.snd (Prod.snd b))))))))), (.float .f32 (Prod.snd (Prod.snd (Prod.snd (toldB ((maxF (Prod.fst (Prod.fst a)) (Prod.fst (Prod.fst b)), maxF (Prod.fst (Prod.snd (Prod.fst a))) (Prod.fst (Prod.snd (Prod.fst b))), maxF (Prod.snd (Prod.snd (Prod.fst a))) (Prod.snd (Prod.snd (Prod.fst b)))), minF (Prod.fst (Prod.snd a)) (Prod.fst (Prod.snd b)), minF (Prod.fst (Prod.snd (Prod.snd a))) (Prod.fst (Prod.snd (Prod.snd b))), minF (Prod.snd (Prod.snd (Prod.snd a))) (Prod.snd (Prod.snd (Prod.snd b)))))))))]), (.bool (validB ((maxF (Prod.fst (Prod.fst a)) (Prod.fst (Prod.fst b)), maxF (Prod.fst (Prod.snd (Prod.fst a))) (Prod.fst (Prod.snd (Prod.fst b))), maxF (Prod.snd (Prod.snd (Prod.fst a))) (Prod.snd (Prod.snd (Prod.fst b)))), minF (Prod.fst (Prod.snd a)) (Prod.fst (Prod.snd b)), minF (Prod.fst (Prod.snd (Prod.snd a))) (Prod.fst (Prod.snd (Prod.snd b))), minF (Prod.snd (Prod.snd (Prod.snd a))) (Prod.snd (Prod.snd (Prod.snd b))))))]) [])) := by kernel_rfl
noncomputable def s_impl_CutBoxes : Sm := semG [.agg tX, .agg tX] (fun x => match x with | (a, b, _) => validB a && validB b) fun x => match x with | (a, b, _) => .tuple [.agg (enc tX (tolB a b)), .bool (cutOk a b)]
theorem ok_impl_CutBoxes : FnOk Try.prog 10 s_impl_CutBoxes := fnOk_typedG (fnOk_runC (C := c_impl_CutBoxes) rfl mixed (.cons ok_impl_ValidBox (.cons ok_impl_each (.cons ok_impl_toldBox .nil))) .nil .nil Try.func10 (by kernel_rfl)) fun (x : ((V6) × (V6) × Unit)) wf hg K h => by
  obtain ⟨a, b, ⟨⟩⟩ := x
  replace hg : (validB a && validB b) = true := hg
  replace h : K (.tuple [.agg (enc tX (tolB a b)), .bool (cutOk a b)]) [] := h
  rw [w_impl_CutBoxes a b K]
  simp only [Bool.and_eq_true] at hg
  rw [hg.1, hg.2]
  exact h

def aroundB : V6 → List V3 → V6
  | b, [] => b
  | b, p :: ps => aroundB ((minF b.1.1 p.1, minF b.1.2.1 p.2.1, minF b.1.2.2 p.2.2), (maxF b.2.1 p.1, maxF b.2.2.1 p.2.1, maxF b.2.2.2 p.2.2)) ps
--B arB List (Nat × Nat × Nat) → (Nat × Nat × Nat) × (Nat × Nat × Nat)
def arB (ps : List V3) : V6 := aroundB ((ps[0]?).getD (0, 0, 0), (ps[0]?).getD (0, 0, 0)) ps
--B arOk List (Nat × Nat × Nat) → Bool
def arOk (ps : List V3) : Bool := decide (1 ≤ ps.length) && (decide (ps.length ≤ 256) && ps.all fin3)
/-! impl.BoxAround -/
noncomputable def a_impl_BoxAround : Nat → Option Ann := fun n => bif Nat.beq n 5 then some ⟨[2,4,19,20,21],2,false⟩ else none
noncomputable def c_impl_BoxAround : Ctx := mkC Try.prog tyT [(27, s_impl_in), (28, s_impl_finiteVector), (24, s_impl_each)] [] [] 41 a_impl_BoxAround 0 false [(24, s_impl_each)] false true
noncomputable def fr_impl_BoxAround_5 (b : V6) (ps : List V3) (n i : Int) : Fr := [(2, .ptr 0 0), (4, .ptr 1 0), (19, .vec tV ps), (20, .int .i64 n), (21, .int .i64 i)]
noncomputable def hp_impl_BoxAround_5 (b : V6) (ps : List V3) (n i : Int) : Heap := [.box (enc tX ((0, 0, 0), (0, 0, 0))), .box (enc tX b)]
theorem r_impl_BoxAround_5 (b : V6) (ps : List V3) (n i : Int) (Kn : Fr → Heap → Prop) (K : V → Heap → Prop) : round c_impl_BoxAround ⟨[2,4,19,20,21],2,false⟩ (lb c_impl_BoxAround 5 Try.f11) (fr_impl_BoxAround_5 b ps n i) (hp_impl_BoxAround_5 b ps n i) Kn (lk c_impl_BoxAround 5 Try.f11 [] K) =
  cond (decide (i < n))
    (cond (decide (0 ≤ i))
      ((match ps[Int.toNat i]? with
        | some y0 => cond (!fin3 y0)
          (K (.tuple [(.agg [(.float .f32 0), (.float .f32 0), (.float .f32 0), (.float .f32 0), (.float .f32 0), (.float .f32 0)]), (.bool false)]) [])
          (Kn [(2, (.ptr 0 0)), (4, (.ptr 1 0)), (19, (.vec (.pair (.float .f32) (.pair (.float .f32) (.float .f32))) (ps))), (20, (.int .i64 (n))), (21, (.int .i64 (IntKind.wrap IntKind.i64 (i + 1))))] [(.box [(.float .f32 0), (.float .f32 0), (.float .f32 0), (.float .f32 0), (.float .f32 0), (.float .f32 0)]), (.box [(.float .f32 (minF (Prod.fst (Prod.fst b)) (Prod.fst y0))), (.float .f32 (minF (Prod.fst (Prod.snd (Prod.fst b))) (Prod.fst (Prod.snd y0)))), (.float .f32 (minF (Prod.snd (Prod.snd (Prod.fst b))) (Prod.snd (Prod.snd y0)))), (.float .f32 (maxF (Prod.fst (Prod.snd b)) (Prod.fst y0))), (.float .f32 (maxF (Prod.fst (Prod.snd (Prod.snd b))) (Prod.fst (Prod.snd y0)))), (.float .f32 (maxF (Prod.snd (Prod.snd (Prod.snd b))) (Prod.snd (Prod.snd y0))))])])
        | none => False))
      (False))
    (K (.tuple [(.agg [(.float .f32 (Prod.fst (Prod.fst b))), (.float .f32 (Prod.fst (Prod.snd (Prod.fst b)))), (.float .f32 (Prod.snd (Prod.snd (Prod.fst b)))), (.float .f32 (Prod.fst (Prod.snd b))), (.float .f32 (Prod.fst (Prod.snd (Prod.snd b)))), (.float .f32 (Prod.snd (Prod.snd (Prod.snd b))))]), (.bool true)]) []) := by kernel_rfl
theorem w_impl_BoxAround (ps : List V3) (K : V → Heap → Prop) : wpFn c_impl_BoxAround Try.f11 (encAs [.cell (.slice tV)] (ps, ())) [] K =
  cond (!(decide (1 ≤ (↑(List.length ps) : Int)) && decide ((↑(List.length ps) : Int) ≤ 256)))
    (K (.tuple [(.agg [(.float .f32 0), (.float .f32 0), (.float .f32 0), (.float .f32 0), (.float .f32 0), (.float .f32 0)]), (.bool false)]) [])
    ((match ps[0]? with
      | some y0 => (match ps[0]? with
        | some y1 => LoopE c_impl_BoxAround ⟨[2, 4, 19, 20, 21], 2, false⟩ (lb c_impl_BoxAround 5 Try.f11) [(2, (.ptr 0 0)), (4, (.ptr 1 0)), (19, (.vec (.pair (.float .f32) (.pair (.float .f32) (.float .f32))) (ps))), (20, (.int .i64 ((↑(List.length ps) : Int)))), (21, (.int .i64 0))] [(.box [(.float .f32 0), (.float .f32 0), (.float .f32 0), (.float .f32 0), (.float .f32 0), (.float .f32 0)]), (.box [(.float .f32 (Prod.fst y0)), (.float .f32 (Prod.fst (Prod.snd y0))), (.float .f32 (Prod.snd (Prod.snd y0))), (.float .f32 (Prod.fst y1)), (.float .f32 (Prod.fst (Prod.snd y1))), (.float .f32 (Prod.snd (Prod.snd y1)))])] (lk c_impl_BoxAround 5 Try.f11 [] K)
        | none => False)
      | none => False)) := by kernel_rfl
noncomputable def s_impl_BoxAround : Sm := semG [.cell (.slice tV)] (fun x => match x with | (ps, _) => arOk ps) fun x => match x with | (ps, _) => .tuple [.agg (enc tX (arB ps)), .bool true]
theorem ok_impl_BoxAround : FnOk Try.prog 11 s_impl_BoxAround := fnOk_typedG (fnOk_runC (C := c_impl_BoxAround) rfl mixed (.cons ok_impl_in (.cons ok_impl_finiteVector (.cons ok_impl_each .nil))) .nil .nil Try.func11 (by kernel_rfl) (.cons ok_impl_each .nil)) fun (x : ((List V3) × Unit)) wf hg K h => by
  obtain ⟨ps, ⟨⟩⟩ := x
  replace hg : (arOk ps) = true := hg
  replace h : K (.tuple [.agg (enc tX (arB ps)), .bool true]) [] := h
  rw [w_impl_BoxAround ps K]
  unfold arOk at hg
  unfold arB at h
  simp only [Bool.and_eq_true, decide_eq_true_eq] at hg
  obtain ⟨g1, g2, g3⟩ := hg
  have g4 : ∀ (i : Nat) (hi : i < ps.length), fin3 (ps[i]'hi) = true := fun i hi => List.all_eq_true.1 g3 _ (List.getElem_mem hi)
  have h0 : 0 < ps.length := by omega
  rw [get_lt h0] at h ⊢
  simp only [d_t (show (1 : Int) ≤ (ps.length : Int) by omega), d_t (show (ps.length : Int) ≤ 256 by omega), Bool.and_self, Bool.not_true, cond_false, Option.getD_some] at h ⊢
  refine loop_run (σ := Nat × V6) (fun q => fr_impl_BoxAround_5 q.2 ps ps.length q.1) (fun q => hp_impl_BoxAround_5 q.2 ps ps.length q.1) (fun q => q.1 ≤ ps.length ∧ aroundB q.2 (ps.drop q.1) = aroundB (ps[0]'h0, ps[0]'h0) ps) (fun q => ps.length - q.1) ?_ (0, (ps[0]'h0, ps[0]'h0)) ⟨Nat.zero_le _, rfl⟩
  rintro ⟨i, b⟩ ⟨hi, hb⟩ Kn hk
  simp only at hi hb hk ⊢
  rw [r_impl_BoxAround_5 b ps ps.length i Kn K]
  by_cases hlt : i < ps.length
  · simp only [d_lt hlt, d_0, cond_true, Int.toNat_natCast, get_lt hlt, g4 i hlt, Bool.not_true, cond_false]
    rw [i64_of (show -9223372036854775808 ≤ (i : Int) + 1 by omega) (by omega)]
    rw [List.drop_eq_getElem_cons hlt, aroundB] at hb
    exact hk (i + 1, _) ⟨hlt, hb⟩ (by simp only; omega)
  · rw [List.drop_of_length_le (by omega), aroundB] at hb
    simp only [d_nlt hlt, cond_false]
    rw [← hb] at h
    exact h

--B groB (Nat × Nat × Nat) × (Nat × Nat × Nat) → Nat → (Nat × Nat × Nat) × (Nat × Nat × Nat)
def groB (b : V6) (k : Nat) : V6 := (subV b.1 (k, k, k), addV b.2 (k, k, k))
--B groOk (Nat × Nat × Nat) × (Nat × Nat × Nat) → Nat → Bool
def groOk (b : V6) (k : Nat) : Bool := validB b && validB (groB b k)
/-! impl.GrowBox -/
noncomputable def c_impl_GrowBox : Ctx := mkC Try.prog tyT [(19, s_impl_ValidBox), (30, s_impl_AddVectors), (29, s_impl_LessVectors), (23, s_impl_toldBox)] [] [] 27 (fun _ => none) 0
theorem w_impl_GrowBox (b : V6) (k : Nat) (K : V → Heap → Prop) : wpFn c_impl_GrowBox Try.f12 (encAs [.agg tX, .cell tF] (b, k, ())) [] K =
  cond (!validB b)
    (K (.tuple [(.agg [(.float .f32 0), (.float .f32 0), (.float .f32 0), (.float .f32 0), (.float .f32 0), (.float .f32 0)]), (.bool false)]) [])
    (K (.tuple [(.agg [(.float .f32 (Prod.fst (Prod.fst (toldB (subV (Prod.fst b) (k, k, k), addV (Prod.snd b) (k, k, k)))))), (.float .f32 (Prod.fst (Prod.snd (Prod.fst (toldB (subV (Prod.fst b) (k, k, k), addV (Prod.snd b) (k, k, k))))))), (.float .f32 (Prod.snd (Prod.snd (Prod.fst (toldB (subV (Prod.fst b) (k, k, k), addV (Prod.snd b) (k, k, k))))))), (.float .f32 (Prod.fst (Prod.snd (toldB (subV (Prod.fst b) (k, k, k), addV (Prod.snd b) (k, k, k)))))), (.float .f32 (Prod.fst (Prod.snd (Prod.snd (toldB (subV (Prod.fst b) (k, k, k), addV (Prod.snd b) (k, k, k))))))), (.float .f32 (Prod.snd (Prod.snd (Prod.snd (toldB (subV (Prod.fst b) (k, k, k), addV (Prod.snd b) (k, k, k)))))))]), (.bool (validB (subV (Prod.fst b) (k, k, k), addV (Prod.snd b) (k, k, k))))]) []) := by kernel_rfl
noncomputable def s_impl_GrowBox : Sm := semG [.agg tX, .cell tF] (fun x => match x with | (b, k, _) => groOk b k) fun x => match x with | (b, k, _) => .tuple [.agg (enc tX (groB b k)), .bool true]
theorem ok_impl_GrowBox : FnOk Try.prog 12 s_impl_GrowBox := fnOk_typedG (fnOk_runC (C := c_impl_GrowBox) rfl mixed (.cons ok_impl_ValidBox (.cons ok_impl_AddVectors (.cons ok_impl_LessVectors (.cons ok_impl_toldBox .nil)))) .nil .nil Try.func12 (by kernel_rfl)) fun (x : ((V6) × (Nat) × Unit)) wf hg K h => by
  obtain ⟨b, k, ⟨⟩⟩ := x
  replace hg : (groOk b k) = true := hg
  replace h : K (.tuple [.agg (enc tX (groB b k)), .bool true]) [] := h
  rw [w_impl_GrowBox b k K]
  unfold groOk groB at hg
  unfold groB at h
  simp only [Bool.and_eq_true] at hg
  unfold toldB
  rw [hg.1, hg.2]
  exact h

--B sizeR Nat × Nat → Nat × Nat
def sizeR (r : V2) : V2 := bif fgt .f32 r.1 0 then r else bif flt .f32 r.2 0 then (fneg .f32 r.2, fneg .f32 r.1) else (0, maxF (fneg .f32 r.1) r.2)
/-! impl.SizeRange -/
noncomputable def c_impl_SizeRange : Ctx := mkC Try.prog tyT [(25, s_impl_greater)] [] [] 26 (fun _ => none) 0
theorem w_impl_SizeRange (r : V2) (K : V → Heap → Prop) : wpFn c_impl_SizeRange Try.f13 (encAs [.agg tR2] (r, ())) [] K =
  cond (fgt FloatKind.f32 (Prod.fst r) 0)
    (K (.agg [(.float .f32 (Prod.fst r)), (.float .f32 (Prod.snd r))]) [])
    (cond (flt FloatKind.f32 (Prod.snd r) 0)
      (K (.agg [(.float .f32 (fneg FloatKind.f32 (Prod.snd r))), (.float .f32 (fneg FloatKind.f32 (Prod.fst r)))]) [])
      (K (.agg [(.float .f32 0), (.float .f32 (maxF (fneg FloatKind.f32 (Prod.fst r)) (Prod.snd r)))]) [])) := by kernel_rfl
noncomputable def s_impl_SizeRange : Sm := semT [.agg tR2] fun x => match x with | (r, _) => .agg (enc tR2 (sizeR r))
theorem ok_impl_SizeRange : FnOk Try.prog 13 s_impl_SizeRange := fnOk_typed (fnOk_runC (C := c_impl_SizeRange) rfl mixed (.cons ok_impl_greater .nil) .nil .nil Try.func13 (by kernel_rfl)) fun (x : ((V2) × Unit)) wf K h => by
  obtain ⟨r, ⟨⟩⟩ := x
  replace h : K (.agg (enc tR2 (sizeR r))) [] := h
  rw [w_impl_SizeRange r K]
  unfold sizeR at h
  revert h
  cases fgt .f32 r.1 0 <;> cases flt .f32 r.2 0 <;> exact id

--B lonR Nat × Nat → Nat × Nat → Nat × Nat → Nat × Nat
def lonR (x y z : V2) : V2 := (longV ((sizeR x).1, (sizeR y).1, (sizeR z).1), longV ((sizeR x).2, (sizeR y).2, (sizeR z).2))
/-! impl.LongRange -/
noncomputable def c_impl_LongRange : Ctx := mkC Try.prog tyT [(13, s_impl_SizeRange), (15, s_impl_LongOf)] [] [] 30 (fun _ => none) 0
theorem w_impl_LongRange (x y z : V2) (K : V → Heap → Prop) : wpFn c_impl_LongRange Try.f14 (encAs [.agg tR2, .agg tR2, .agg tR2] (x, y, z, ())) [] K =
  K (.agg [(.float .f32 (longV (Prod.fst (sizeR x), Prod.fst (sizeR y), Prod.fst (sizeR z)))), (.float .f32 (longV (Prod.snd (sizeR x), Prod.snd (sizeR y), Prod.snd (sizeR z))))]) [] := by kernel_rfl
noncomputable def s_impl_LongRange : Sm := semT [.agg tR2, .agg tR2, .agg tR2] fun x => match x with | (x, y, z, _) => .agg (enc tR2 (lonR x y z))
theorem ok_impl_LongRange : FnOk Try.prog 14 s_impl_LongRange := fnOk_typed (fnOk_runC (C := c_impl_LongRange) rfl mixed (.cons ok_impl_SizeRange (.cons ok_impl_LongOf .nil)) .nil .nil Try.func14 (by kernel_rfl)) fun (x : ((V2) × (V2) × (V2) × Unit)) wf K h => by
  obtain ⟨x, y, z, ⟨⟩⟩ := x
  replace h : K (.agg (enc tR2 (lonR x y z))) [] := h
  rw [w_impl_LongRange x y z K]
  exact h

/-! impl.coordinates -/
noncomputable def c_impl_coordinates : Ctx := mkC Try.prog tyT [] [] [] 10 (fun _ => none) 0
theorem w_impl_coordinates (p : V3) (K : V → Heap → Prop) : wpFn c_impl_coordinates Try.f20 (encAs [.agg tV] (p, ())) [] K =
  K (.agg [(.float .f32 (Prod.fst p)), (.float .f32 (Prod.fst (Prod.snd p))), (.float .f32 (Prod.snd (Prod.snd p)))]) [] := by kernel_rfl
noncomputable def s_impl_coordinates : Sm := semT [.agg tV] fun x => match x with | (p, _) => .agg (enc tV p)
theorem ok_impl_coordinates : FnOk Try.prog 20 s_impl_coordinates := fnOk_typed (fnOk_runC (C := c_impl_coordinates) rfl mixed .nil .nil .nil Try.func20 (by kernel_rfl)) fun (x : ((V3) × Unit)) wf K h => by
  obtain ⟨p, ⟨⟩⟩ := x
  replace h : K (.agg (enc tV p)) [] := h
  rw [w_impl_coordinates p K]
  exact h

/-! impl.vectorOf -/
noncomputable def c_impl_vectorOf : Ctx := mkC Try.prog tyT [] [] [] 10 (fun _ => none) 0
theorem w_impl_vectorOf (p : V3) (K : V → Heap → Prop) : wpFn c_impl_vectorOf Try.f21 (encAs [.agg tV] (p, ())) [] K =
  K (.agg [(.float .f32 (Prod.fst p)), (.float .f32 (Prod.fst (Prod.snd p))), (.float .f32 (Prod.snd (Prod.snd p)))]) [] := by kernel_rfl
noncomputable def s_impl_vectorOf : Sm := semT [.agg tV] fun x => match x with | (p, _) => .agg (enc tV p)
theorem ok_impl_vectorOf : FnOk Try.prog 21 s_impl_vectorOf := fnOk_typed (fnOk_runC (C := c_impl_vectorOf) rfl mixed .nil .nil .nil Try.func21 (by kernel_rfl)) fun (x : ((V3) × Unit)) wf K h => by
  obtain ⟨p, ⟨⟩⟩ := x
  replace h : K (.agg (enc tV p)) [] := h
  rw [w_impl_vectorOf p K]
  exact h

--B crd Nat × Nat × Nat → Int → Nat
def crd (v : V3) (i : Int) : Nat := bif i == 0 then v.1 else bif i == 1 then v.2.1 else v.2.2
def setV (v : V3) (i : Int) (m : Nat) : V3 := bif i == 0 then (m, v.2.1, v.2.2) else bif i == 1 then (v.1, m, v.2.2) else (v.1, v.2.1, m)
def stepA (b : V6) (ax i : Int) : Int := bif fgt .f32 (fsub .f32 (crd b.2 i) (crd b.1 i)) (fsub .f32 (crd b.2 ax) (crd b.1 ax)) then i else ax
def axisB (b : V6) : Int := stepA b (stepA b (stepA b 0 0) 1) 2
def midB (b : V6) : Nat := fadd .f32 (crd b.1 (axisB b)) (fdiv .f32 (fsub .f32 (crd b.2 (axisB b)) (crd b.1 (axisB b))) 1073741824)
--B oneB (Nat × Nat × Nat) × (Nat × Nat × Nat) → (Nat × Nat × Nat) × (Nat × Nat × Nat)
def oneB (b : V6) : V6 := (b.1, setV b.2 (axisB b) (midB b))
--B twoB (Nat × Nat × Nat) × (Nat × Nat × Nat) → (Nat × Nat × Nat) × (Nat × Nat × Nat)
def twoB (b : V6) : V6 := (setV b.1 (axisB b) (midB b), b.2)
def axN (b : V6) : Nat → Int
  | 0 => 0
  | i + 1 => stepA b (axN b i) i
theorem stepK {c : Bool} {A B : Prop} (hA : c = true → A) (hB : c = false → B) : cond c A B := by
  cases c with
  | true => exact hA rfl
  | false => exact hB rfl
theorem notK {c : Bool} {A B : Prop} (hc : c = true) (hB : B) : cond (!c) A B := by rw [hc]; exact hB
def axM (m : Int) : Int := m % 3
def iM (m : Int) : Int := m / 3
--B splOk (Nat × Nat × Nat) × (Nat × Nat × Nat) → Bool
def splOk (b : V6) : Bool := validB b && (validB (oneB b) && validB (twoB b))
/-! impl.SplitBox -/
noncomputable def a_impl_SplitBox : Nat → Option Ann := fun n => bif Nat.beq n 5 then some ⟨[1,2,3,5,6,7,23],5,false⟩ else none
noncomputable def c_impl_SplitBox : Ctx := mkC Try.prog tyT [(19, s_impl_ValidBox), (20, s_impl_coordinates), (21, s_impl_vectorOf)] [] [] 83 a_impl_SplitBox 0 false [(20, s_impl_coordinates), (21, s_impl_vectorOf)] false true true []
noncomputable def fr_impl_SplitBox_5 (b : V6) (m : Int) : Fr := [(1, .ptr 0 0), (2, .ptr 1 0), (3, .ptr 2 0), (5, .ptr 3 0), (6, .ptr 4 0), (7, .int .i64 (axM m)), (23, .int .i64 (iM m))]
noncomputable def hp_impl_SplitBox_5 (b : V6) (m : Int) : Heap := [.box (enc tX b), .box (enc tX ((0, 0, 0), (0, 0, 0))), .box (enc tX ((0, 0, 0), (0, 0, 0))), .box (enc tV b.1), .box (enc tV b.2)]
theorem r_impl_SplitBox_5_0 (b : V6) (Kn : Fr → Heap → Prop) (K : V → Heap → Prop) : round c_impl_SplitBox ⟨[1,2,3,5,6,7,23],5,false⟩ (lb c_impl_SplitBox 5 Try.f7) (fr_impl_SplitBox_5 b (0 : Int)) (hp_impl_SplitBox_5 b (0 : Int)) Kn (lk c_impl_SplitBox 5 Try.f7 [] K) =
  cond (fgt FloatKind.f32 (fsub FloatKind.f32 (Prod.fst (Prod.snd b)) (Prod.fst (Prod.fst b))) (fsub FloatKind.f32 (Prod.fst (Prod.snd b)) (Prod.fst (Prod.fst b))))
    (Kn [(1, (.ptr 0 0)), (2, (.ptr 1 0)), (3, (.ptr 2 0)), (5, (.ptr 3 0)), (6, (.ptr 4 0)), (7, (.int .i64 (iM 0))), (23, (.int .i64 (IntKind.wrap IntKind.i64 (iM 0 + 1))))] [(.box [(.float .f32 (Prod.fst (Prod.fst b))), (.float .f32 (Prod.fst (Prod.snd (Prod.fst b)))), (.float .f32 (Prod.snd (Prod.snd (Prod.fst b)))), (.float .f32 (Prod.fst (Prod.snd b))), (.float .f32 (Prod.fst (Prod.snd (Prod.snd b)))), (.float .f32 (Prod.snd (Prod.snd (Prod.snd b))))]), (.box [(.float .f32 0), (.float .f32 0), (.float .f32 0), (.float .f32 0), (.float .f32 0), (.float .f32 0)]), (.box [(.float .f32 0), (.float .f32 0), (.float .f32 0), (.float .f32 0), (.float .f32 0), (.float .f32 0)]), (.box [(.float .f32 (Prod.fst (Prod.fst b))), (.float .f32 (Prod.fst (Prod.snd (Prod.fst b)))), (.float .f32 (Prod.snd (Prod.snd (Prod.fst b))))]), (.box [(.float .f32 (Prod.fst (Prod.snd b))), (.float .f32 (Prod.fst (Prod.snd (Prod.snd b)))), (.float .f32 (Prod.snd (Prod.snd (Prod.snd b))))])])
    (Kn [(1, (.ptr 0 0)), (2, (.ptr 1 0)), (3, (.ptr 2 0)), (5, (.ptr 3 0)), (6, (.ptr 4 0)), (7, (.int .i64 (axM 0))), (23, (.int .i64 (IntKind.wrap IntKind.i64 (iM 0 + 1))))] [(.box [(.float .f32 (Prod.fst (Prod.fst b))), (.float .f32 (Prod.fst (Prod.snd (Prod.fst b)))), (.float .f32 (Prod.snd (Prod.snd (Prod.fst b)))), (.float .f32 (Prod.fst (Prod.snd b))), (.float .f32 (Prod.fst (Prod.snd (Prod.snd b)))), (.float .f32 (Prod.snd (Prod.snd (Prod.snd b))))]), (.box [(.float .f32 0), (.float .f32 0), (.float .f32 0), (.float .f32 0), (.float .f32 0), (.float .f32 0)]), (.box [(.float .f32 0), (.float .f32 0), (.float .f32 0), (.float .f32 0), (.float .f32 0), (.float .f32 0)]), (.box [(.float .f32 (Prod.fst (Prod.fst b))), (.float .f32 (Prod.fst (Prod.snd (Prod.fst b)))), (.float .f32 (Prod.snd (Prod.snd (Prod.fst b))))]), (.box [(.float .f32 (Prod.fst (Prod.snd b))), (.float .f32 (Prod.fst (Prod.snd (Prod.snd b)))), (.float .f32 (Prod.snd (Prod.snd (Prod.snd b))))])]) := by kernel_rfl
theorem r_impl_SplitBox_5_1 (b : V6) (Kn : Fr → Heap → Prop) (K : V → Heap → Prop) : round c_impl_SplitBox ⟨[1,2,3,5,6,7,23],5,false⟩ (lb c_impl_SplitBox 5 Try.f7) (fr_impl_SplitBox_5 b (1 : Int)) (hp_impl_SplitBox_5 b (1 : Int)) Kn (lk c_impl_SplitBox 5 Try.f7 [] K) =
  cond (fgt FloatKind.f32 (fsub FloatKind.f32 (Prod.fst (Prod.snd b)) (Prod.fst (Prod.fst b))) (fsub FloatKind.f32 (Prod.fst (Prod.snd (Prod.snd b))) (Prod.fst (Prod.snd (Prod.fst b)))))
    (Kn [(1, (.ptr 0 0)), (2, (.ptr 1 0)), (3, (.ptr 2 0)), (5, (.ptr 3 0)), (6, (.ptr 4 0)), (7, (.int .i64 (iM 1))), (23, (.int .i64 (IntKind.wrap IntKind.i64 (iM 1 + 1))))] [(.box [(.float .f32 (Prod.fst (Prod.fst b))), (.float .f32 (Prod.fst (Prod.snd (Prod.fst b)))), (.float .f32 (Prod.snd (Prod.snd (Prod.fst b)))), (.float .f32 (Prod.fst (Prod.snd b))), (.float .f32 (Prod.fst (Prod.snd (Prod.snd b)))), (.float .f32 (Prod.snd (Prod.snd (Prod.snd b))))]), (.box [(.float .f32 0), (.float .f32 0), (.float .f32 0), (.float .f32 0), (.float .f32 0), (.float .f32 0)]), (.box [(.float .f32 0), (.float .f32 0), (.float .f32 0), (.float .f32 0), (.float .f32 0), (.float .f32 0)]), (.box [(.float .f32 (Prod.fst (Prod.fst b))), (.float .f32 (Prod.fst (Prod.snd (Prod.fst b)))), (.float .f32 (Prod.snd (Prod.snd (Prod.fst b))))]), (.box [(.float .f32 (Prod.fst (Prod.snd b))), (.float .f32 (Prod.fst (Prod.snd (Prod.snd b)))), (.float .f32 (Prod.snd (Prod.snd (Prod.snd b))))])])
    (Kn [(1, (.ptr 0 0)), (2, (.ptr 1 0)), (3, (.ptr 2 0)), (5, (.ptr 3 0)), (6, (.ptr 4 0)), (7, (.int .i64 (axM 1))), (23, (.int .i64 (IntKind.wrap IntKind.i64 (iM 1 + 1))))] [(.box [(.float .f32 (Prod.fst (Prod.fst b))), (.float .f32 (Prod.fst (Prod.snd (Prod.fst b)))), (.float .f32 (Prod.snd (Prod.snd (Prod.fst b)))), (.float .f32 (Prod.fst (Prod.snd b))), (.float .f32 (Prod.fst (Prod.snd (Prod.snd b)))), (.float .f32 (Prod.snd (Prod.snd (Prod.snd b))))]), (.box [(.float .f32 0), (.float .f32 0), (.float .f32 0), (.float .f32 0), (.float .f32 0), (.float .f32 0)]), (.box [(.float .f32 0), (.float .f32 0), (.float .f32 0), (.float .f32 0), (.float .f32 0), (.float .f32 0)]), (.box [(.float .f32 (Prod.fst (Prod.fst b))), (.float .f32 (Prod.fst (Prod.snd (Prod.fst b)))), (.float .f32 (Prod.snd (Prod.snd (Prod.fst b))))]), (.box [(.float .f32 (Prod.fst (Prod.snd b))), (.float .f32 (Prod.fst (Prod.snd (Prod.snd b)))), (.float .f32 (Prod.snd (Prod.snd (Prod.snd b))))])]) := by kernel_rfl
theorem r_impl_SplitBox_5_2 (b : V6) (Kn : Fr → Heap → Prop) (K : V → Heap → Prop) : round c_impl_SplitBox ⟨[1,2,3,5,6,7,23],5,false⟩ (lb c_impl_SplitBox 5 Try.f7) (fr_impl_SplitBox_5 b (2 : Int)) (hp_impl_SplitBox_5 b (2 : Int)) Kn (lk c_impl_SplitBox 5 Try.f7 [] K) =
  cond (fgt FloatKind.f32 (fsub FloatKind.f32 (Prod.fst (Prod.snd b)) (Prod.fst (Prod.fst b))) (fsub FloatKind.f32 (Prod.snd (Prod.snd (Prod.snd b))) (Prod.snd (Prod.snd (Prod.fst b)))))
    (Kn [(1, (.ptr 0 0)), (2, (.ptr 1 0)), (3, (.ptr 2 0)), (5, (.ptr 3 0)), (6, (.ptr 4 0)), (7, (.int .i64 (iM 2))), (23, (.int .i64 (IntKind.wrap IntKind.i64 (iM 2 + 1))))] [(.box [(.float .f32 (Prod.fst (Prod.fst b))), (.float .f32 (Prod.fst (Prod.snd (Prod.fst b)))), (.float .f32 (Prod.snd (Prod.snd (Prod.fst b)))), (.float .f32 (Prod.fst (Prod.snd b))), (.float .f32 (Prod.fst (Prod.snd (Prod.snd b)))), (.float .f32 (Prod.snd (Prod.snd (Prod.snd b))))]), (.box [(.float .f32 0), (.float .f32 0), (.float .f32 0), (.float .f32 0), (.float .f32 0), (.float .f32 0)]), (.box [(.float .f32 0), (.float .f32 0), (.float .f32 0), (.float .f32 0), (.float .f32 0), (.float .f32 0)]), (.box [(.float .f32 (Prod.fst (Prod.fst b))), (.float .f32 (Prod.fst (Prod.snd (Prod.fst b)))), (.float .f32 (Prod.snd (Prod.snd (Prod.fst b))))]), (.box [(.float .f32 (Prod.fst (Prod.snd b))), (.float .f32 (Prod.fst (Prod.snd (Prod.snd b)))), (.float .f32 (Prod.snd (Prod.snd (Prod.snd b))))])])
    (Kn [(1, (.ptr 0 0)), (2, (.ptr 1 0)), (3, (.ptr 2 0)), (5, (.ptr 3 0)), (6, (.ptr 4 0)), (7, (.int .i64 (axM 2))), (23, (.int .i64 (IntKind.wrap IntKind.i64 (iM 2 + 1))))] [(.box [(.float .f32 (Prod.fst (Prod.fst b))), (.float .f32 (Prod.fst (Prod.snd (Prod.fst b)))), (.float .f32 (Prod.snd (Prod.snd (Prod.fst b)))), (.float .f32 (Prod.fst (Prod.snd b))), (.float .f32 (Prod.fst (Prod.snd (Prod.snd b)))), (.float .f32 (Prod.snd (Prod.snd (Prod.snd b))))]), (.box [(.float .f32 0), (.float .f32 0), (.float .f32 0), (.float .f32 0), (.float .f32 0), (.float .f32 0)]), (.box [(.float .f32 0), (.float .f32 0), (.float .f32 0), (.float .f32 0), (.float .f32 0), (.float .f32 0)]), (.box [(.float .f32 (Prod.fst (Prod.fst b))), (.float .f32 (Prod.fst (Prod.snd (Prod.fst b)))), (.float .f32 (Prod.snd (Prod.snd (Prod.fst b))))]), (.box [(.float .f32 (Prod.fst (Prod.snd b))), (.float .f32 (Prod.fst (Prod.snd (Prod.snd b)))), (.float .f32 (Prod.snd (Prod.snd (Prod.snd b))))])]) := by kernel_rfl
theorem r_impl_SplitBox_5_3 (b : V6) (Kn : Fr → Heap → Prop) (K : V → Heap → Prop) : round c_impl_SplitBox ⟨[1,2,3,5,6,7,23],5,false⟩ (lb c_impl_SplitBox 5 Try.f7) (fr_impl_SplitBox_5 b (3 : Int)) (hp_impl_SplitBox_5 b (3 : Int)) Kn (lk c_impl_SplitBox 5 Try.f7 [] K) =
  cond (fgt FloatKind.f32 (fsub FloatKind.f32 (Prod.fst (Prod.snd (Prod.snd b))) (Prod.fst (Prod.snd (Prod.fst b)))) (fsub FloatKind.f32 (Prod.fst (Prod.snd b)) (Prod.fst (Prod.fst b))))
    (Kn [(1, (.ptr 0 0)), (2, (.ptr 1 0)), (3, (.ptr 2 0)), (5, (.ptr 3 0)), (6, (.ptr 4 0)), (7, (.int .i64 (iM 3))), (23, (.int .i64 (IntKind.wrap IntKind.i64 (iM 3 + 1))))] [(.box [(.float .f32 (Prod.fst (Prod.fst b))), (.float .f32 (Prod.fst (Prod.snd (Prod.fst b)))), (.float .f32 (Prod.snd (Prod.snd (Prod.fst b)))), (.float .f32 (Prod.fst (Prod.snd b))), (.float .f32 (Prod.fst (Prod.snd (Prod.snd b)))), (.float .f32 (Prod.snd (Prod.snd (Prod.snd b))))]), (.box [(.float .f32 0), (.float .f32 0), (.float .f32 0), (.float .f32 0), (.float .f32 0), (.float .f32 0)]), (.box [(.float .f32 0), (.float .f32 0), (.float .f32 0), (.float .f32 0), (.float .f32 0), (.float .f32 0)]), (.box [(.float .f32 (Prod.fst (Prod.fst b))), (.float .f32 (Prod.fst (Prod.snd (Prod.fst b)))), (.float .f32 (Prod.snd (Prod.snd (Prod.fst b))))]), (.box [(.float .f32 (Prod.fst (Prod.snd b))), (.float .f32 (Prod.fst (Prod.snd (Prod.snd b)))), (.float .f32 (Prod.snd (Prod.snd (Prod.snd b))))])])
    (Kn [(1, (.ptr 0 0)), (2, (.ptr 1 0)), (3, (.ptr 2 0)), (5, (.ptr 3 0)), (6, (.ptr 4 0)), (7, (.int .i64 (axM 3))), (23, (.int .i64 (IntKind.wrap IntKind.i64 (iM 3 + 1))))] [(.box [(.float .f32 (Prod.fst (Prod.fst b))), (.float .f32 (Prod.fst (Prod.snd (Prod.fst b)))), (.float .f32 (Prod.snd (Prod.snd (Prod.fst b)))), (.float .f32 (Prod.fst (Prod.snd b))), (.float .f32 (Prod.fst (Prod.snd (Prod.snd b)))), (.float .f32 (Prod.snd (Prod.snd (Prod.snd b))))]), (.box [(.float .f32 0), (.float .f32 0), (.float .f32 0), (.float .f32 0), (.float .f32 0), (.float .f32 0)]), (.box [(.float .f32 0), (.float .f32 0), (.float .f32 0), (.float .f32 0), (.float .f32 0), (.float .f32 0)]), (.box [(.float .f32 (Prod.fst (Prod.fst b))), (.float .f32 (Prod.fst (Prod.snd (Prod.fst b)))), (.float .f32 (Prod.snd (Prod.snd (Prod.fst b))))]), (.box [(.float .f32 (Prod.fst (Prod.snd b))), (.float .f32 (Prod.fst (Prod.snd (Prod.snd b)))), (.float .f32 (Prod.snd (Prod.snd (Prod.snd b))))])]) := by kernel_rfl
theorem r_impl_SplitBox_5_4 (b : V6) (Kn : Fr → Heap → Prop) (K : V → Heap → Prop) : round c_impl_SplitBox ⟨[1,2,3,5,6,7,23],5,false⟩ (lb c_impl_SplitBox 5 Try.f7) (fr_impl_SplitBox_5 b (4 : Int)) (hp_impl_SplitBox_5 b (4 : Int)) Kn (lk c_impl_SplitBox 5 Try.f7 [] K) =
  cond (fgt FloatKind.f32 (fsub FloatKind.f32 (Prod.fst (Prod.snd (Prod.snd b))) (Prod.fst (Prod.snd (Prod.fst b)))) (fsub FloatKind.f32 (Prod.fst (Prod.snd (Prod.snd b))) (Prod.fst (Prod.snd (Prod.fst b)))))
    (Kn [(1, (.ptr 0 0)), (2, (.ptr 1 0)), (3, (.ptr 2 0)), (5, (.ptr 3 0)), (6, (.ptr 4 0)), (7, (.int .i64 (iM 4))), (23, (.int .i64 (IntKind.wrap IntKind.i64 (iM 4 + 1))))] [(.box [(.float .f32 (Prod.fst (Prod.fst b))), (.float .f32 (Prod.fst (Prod.snd (Prod.fst b)))), (.float .f32 (Prod.snd (Prod.snd (Prod.fst b)))), (.float .f32 (Prod.fst (Prod.snd b))), (.float .f32 (Prod.fst (Prod.snd (Prod.snd b)))), (.float .f32 (Prod.snd (Prod.snd (Prod.snd b))))]), (.box [(.float .f32 0), (.float .f32 0), (.float .f32 0), (.float .f32 0), (.float .f32 0), (.float .f32 0)]), (.box [(.float .f32 0), (.float .f32 0), (.float .f32 0), (.float .f32 0), (.float .f32 0), (.float .f32 0)]), (.box [(.float .f32 (Prod.fst (Prod.fst b))), (.float .f32 (Prod.fst (Prod.snd (Prod.fst b)))), (.float .f32 (Prod.snd (Prod.snd (Prod.fst b))))]), (.box [(.float .f32 (Prod.fst (Prod.snd b))), (.float .f32 (Prod.fst (Prod.snd (Prod.snd b)))), (.float .f32 (Prod.snd (Prod.snd (Prod.snd b))))])])
    (Kn [(1, (.ptr 0 0)), (2, (.ptr 1 0)), (3, (.ptr 2 0)), (5, (.ptr 3 0)), (6, (.ptr 4 0)), (7, (.int .i64 (axM 4))), (23, (.int .i64 (IntKind.wrap IntKind.i64 (iM 4 + 1))))] [(.box [(.float .f32 (Prod.fst (Prod.fst b))), (.float .f32 (Prod.fst (Prod.snd (Prod.fst b)))), (.float .f32 (Prod.snd (Prod.snd (Prod.fst b)))), (.float .f32 (Prod.fst (Prod.snd b))), (.float .f32 (Prod.fst (Prod.snd (Prod.snd b)))), (.float .f32 (Prod.snd (Prod.snd (Prod.snd b))))]), (.box [(.float .f32 0), (.float .f32 0), (.float .f32 0), (.float .f32 0), (.float .f32 0), (.float .f32 0)]), (.box [(.float .f32 0), (.float .f32 0), (.float .f32 0), (.float .f32 0), (.float .f32 0), (.float .f32 0)]), (.box [(.float .f32 (Prod.fst (Prod.fst b))), (.float .f32 (Prod.fst (Prod.snd (Prod.fst b)))), (.float .f32 (Prod.snd (Prod.snd (Prod.fst b))))]), (.box [(.float .f32 (Prod.fst (Prod.snd b))), (.float .f32 (Prod.fst (Prod.snd (Prod.snd b)))), (.float .f32 (Prod.snd (Prod.snd (Prod.snd b))))])]) := by kernel_rfl
theorem r_impl_SplitBox_5_5 (b : V6) (Kn : Fr → Heap → Prop) (K : V → Heap → Prop) : round c_impl_SplitBox ⟨[1,2,3,5,6,7,23],5,false⟩ (lb c_impl_SplitBox 5 Try.f7) (fr_impl_SplitBox_5 b (5 : Int)) (hp_impl_SplitBox_5 b (5 : Int)) Kn (lk c_impl_SplitBox 5 Try.f7 [] K) =
  cond (fgt FloatKind.f32 (fsub FloatKind.f32 (Prod.fst (Prod.snd (Prod.snd b))) (Prod.fst (Prod.snd (Prod.fst b)))) (fsub FloatKind.f32 (Prod.snd (Prod.snd (Prod.snd b))) (Prod.snd (Prod.snd (Prod.fst b)))))
    (Kn [(1, (.ptr 0 0)), (2, (.ptr 1 0)), (3, (.ptr 2 0)), (5, (.ptr 3 0)), (6, (.ptr 4 0)), (7, (.int .i64 (iM 5))), (23, (.int .i64 (IntKind.wrap IntKind.i64 (iM 5 + 1))))] [(.box [(.float .f32 (Prod.fst (Prod.fst b))), (.float .f32 (Prod.fst (Prod.snd (Prod.fst b)))), (.float .f32 (Prod.snd (Prod.snd (Prod.fst b)))), (.float .f32 (Prod.fst (Prod.snd b))), (.float .f32 (Prod.fst (Prod.snd (Prod.snd b)))), (.float .f32 (Prod.snd (Prod.snd (Prod.snd b))))]), (.box [(.float .f32 0), (.float .f32 0), (.float .f32 0), (.float .f32 0), (.float .f32 0), (.float .f32 0)]), (.box [(.float .f32 0), (.float .f32 0), (.float .f32 0), (.float .f32 0), (.float .f32 0), (.float .f32 0)]), (.box [(.float .f32 (Prod.fst (Prod.fst b))), (.float .f32 (Prod.fst (Prod.snd (Prod.fst b)))), (.float .f32 (Prod.snd (Prod.snd (Prod.fst b))))]), (.box [(.float .f32 (Prod.fst (Prod.snd b))), (.float .f32 (Prod.fst (Prod.snd (Prod.snd b)))), (.float .f32 (Prod.snd (Prod.snd (Prod.snd b))))])])
    (Kn [(1, (.ptr 0 0)), (2, (.ptr 1 0)), (3, (.ptr 2 0)), (5, (.ptr 3 0)), (6, (.ptr 4 0)), (7, (.int .i64 (axM 5))), (23, (.int .i64 (IntKind.wrap IntKind.i64 (iM 5 + 1))))] [(.box [(.float .f32 (Prod.fst (Prod.fst b))), (.float .f32 (Prod.fst (Prod.snd (Prod.fst b)))), (.float .f32 (Prod.snd (Prod.snd (Prod.fst b)))), (.float .f32 (Prod.fst (Prod.snd b))), (.float .f32 (Prod.fst (Prod.snd (Prod.snd b)))), (.float .f32 (Prod.snd (Prod.snd (Prod.snd b))))]), (.box [(.float .f32 0), (.float .f32 0), (.float .f32 0), (.float .f32 0), (.float .f32 0), (.float .f32 0)]), (.box [(.float .f32 0), (.float .f32 0), (.float .f32 0), (.float .f32 0), (.float .f32 0), (.float .f32 0)]), (.box [(.float .f32 (Prod.fst (Prod.fst b))), (.float .f32 (Prod.fst (Prod.snd (Prod.fst b)))), (.float .f32 (Prod.snd (Prod.snd (Prod.fst b))))]), (.box [(.float .f32 (Prod.fst (Prod.snd b))), (.float .f32 (Prod.fst (Prod.snd (Prod.snd b)))), (.float .f32 (Prod.snd (Prod.snd (Prod.snd b))))])]) := by kernel_rfl
theorem r_impl_SplitBox_5_6 (b : V6) (Kn : Fr → Heap → Prop) (K : V → Heap → Prop) : round c_impl_SplitBox ⟨[1,2,3,5,6,7,23],5,false⟩ (lb c_impl_SplitBox 5 Try.f7) (fr_impl_SplitBox_5 b (6 : Int)) (hp_impl_SplitBox_5 b (6 : Int)) Kn (lk c_impl_SplitBox 5 Try.f7 [] K) =
  cond (fgt FloatKind.f32 (fsub FloatKind.f32 (Prod.snd (Prod.snd (Prod.snd b))) (Prod.snd (Prod.snd (Prod.fst b)))) (fsub FloatKind.f32 (Prod.fst (Prod.snd b)) (Prod.fst (Prod.fst b))))
    (Kn [(1, (.ptr 0 0)), (2, (.ptr 1 0)), (3, (.ptr 2 0)), (5, (.ptr 3 0)), (6, (.ptr 4 0)), (7, (.int .i64 (iM 6))), (23, (.int .i64 (IntKind.wrap IntKind.i64 (iM 6 + 1))))] [(.box [(.float .f32 (Prod.fst (Prod.fst b))), (.float .f32 (Prod.fst (Prod.snd (Prod.fst b)))), (.float .f32 (Prod.snd (Prod.snd (Prod.fst b)))), (.float .f32 (Prod.fst (Prod.snd b))), (.float .f32 (Prod.fst (Prod.snd (Prod.snd b)))), (.float .f32 (Prod.snd (Prod.snd (Prod.snd b))))]), (.box [(.float .f32 0), (.float .f32 0), (.float .f32 0), (.float .f32 0), (.float .f32 0), (.float .f32 0)]), (.box [(.float .f32 0), (.float .f32 0), (.float .f32 0), (.float .f32 0), (.float .f32 0), (.float .f32 0)]), (.box [(.float .f32 (Prod.fst (Prod.fst b))), (.float .f32 (Prod.fst (Prod.snd (Prod.fst b)))), (.float .f32 (Prod.snd (Prod.snd (Prod.fst b))))]), (.box [(.float .f32 (Prod.fst (Prod.snd b))), (.float .f32 (Prod.fst (Prod.snd (Prod.snd b)))), (.float .f32 (Prod.snd (Prod.snd (Prod.snd b))))])])
    (Kn [(1, (.ptr 0 0)), (2, (.ptr 1 0)), (3, (.ptr 2 0)), (5, (.ptr 3 0)), (6, (.ptr 4 0)), (7, (.int .i64 (axM 6))), (23, (.int .i64 (IntKind.wrap IntKind.i64 (iM 6 + 1))))] [(.box [(.float .f32 (Prod.fst (Prod.fst b))), (.float .f32 (Prod.fst (Prod.snd (Prod.fst b)))), (.float .f32 (Prod.snd (Prod.snd (Prod.fst b)))), (.float .f32 (Prod.fst (Prod.snd b))), (.float .f32 (Prod.fst (Prod.snd (Prod.snd b)))), (.float .f32 (Prod.snd (Prod.snd (Prod.snd b))))]), (.box [(.float .f32 0), (.float .f32 0), (.float .f32 0), (.float .f32 0), (.float .f32 0), (.float .f32 0)]), (.box [(.float .f32 0), (.float .f32 0), (.float .f32 0), (.float .f32 0), (.float .f32 0), (.float .f32 0)]), (.box [(.float .f32 (Prod.fst (Prod.fst b))), (.float .f32 (Prod.fst (Prod.snd (Prod.fst b)))), (.float .f32 (Prod.snd (Prod.snd (Prod.fst b))))]), (.box [(.float .f32 (Prod.fst (Prod.snd b))), (.float .f32 (Prod.fst (Prod.snd (Prod.snd b)))), (.float .f32 (Prod.snd (Prod.snd (Prod.snd b))))])]) := by kernel_rfl
theorem r_impl_SplitBox_5_7 (b : V6) (Kn : Fr → Heap → Prop) (K : V → Heap → Prop) : round c_impl_SplitBox ⟨[1,2,3,5,6,7,23],5,false⟩ (lb c_impl_SplitBox 5 Try.f7) (fr_impl_SplitBox_5 b (7 : Int)) (hp_impl_SplitBox_5 b (7 : Int)) Kn (lk c_impl_SplitBox 5 Try.f7 [] K) =
  cond (fgt FloatKind.f32 (fsub FloatKind.f32 (Prod.snd (Prod.snd (Prod.snd b))) (Prod.snd (Prod.snd (Prod.fst b)))) (fsub FloatKind.f32 (Prod.fst (Prod.snd (Prod.snd b))) (Prod.fst (Prod.snd (Prod.fst b)))))
    (Kn [(1, (.ptr 0 0)), (2, (.ptr 1 0)), (3, (.ptr 2 0)), (5, (.ptr 3 0)), (6, (.ptr 4 0)), (7, (.int .i64 (iM 7))), (23, (.int .i64 (IntKind.wrap IntKind.i64 (iM 7 + 1))))] [(.box [(.float .f32 (Prod.fst (Prod.fst b))), (.float .f32 (Prod.fst (Prod.snd (Prod.fst b)))), (.float .f32 (Prod.snd (Prod.snd (Prod.fst b)))), (.float .f32 (Prod.fst (Prod.snd b))), (.float .f32 (Prod.fst (Prod.snd (Prod.snd b)))), (.float .f32 (Prod.snd (Prod.snd (Prod.snd b))))]), (.box [(.float .f32 0), (.float .f32 0), (.float .f32 0), (.float .f32 0), (.float .f32 0), (.float .f32 0)]), (.box [(.float .f32 0), (.float .f32 0), (.float .f32 0), (.float .f32 0), (.float .f32 0), (.float .f32 0)]), (.box [(.float .f32 (Prod.fst (Prod.fst b))), (.float .f32 (Prod.fst (Prod.snd (Prod.fst b)))), (.float .f32 (Prod.snd (Prod.snd (Prod.fst b))))]), (.box [(.float .f32 (Prod.fst (Prod.snd b))), (.float .f32 (Prod.fst (Prod.snd (Prod.snd b)))), (.float .f32 (Prod.snd (Prod.snd (Prod.snd b))))])])
    (Kn [(1, (.ptr 0 0)), (2, (.ptr 1 0)), (3, (.ptr 2 0)), (5, (.ptr 3 0)), (6, (.ptr 4 0)), (7, (.int .i64 (axM 7))), (23, (.int .i64 (IntKind.wrap IntKind.i64 (iM 7 + 1))))] [(.box [(.float .f32 (Prod.fst (Prod.fst b))), (.float .f32 (Prod.fst (Prod.snd (Prod.fst b)))), (.float .f32 (Prod.snd (Prod.snd (Prod.fst b)))), (.float .f32 (Prod.fst (Prod.snd b))), (.float .f32 (Prod.fst (Prod.snd (Prod.snd b)))), (.float .f32 (Prod.snd (Prod.snd (Prod.snd b))))]), (.box [(.float .f32 0), (.float .f32 0), (.float .f32 0), (.float .f32 0), (.float .f32 0), (.float .f32 0)]), (.box [(.float .f32 0), (.float .f32 0), (.float .f32 0), (.float .f32 0), (.float .f32 0), (.float .f32 0)]), (.box [(.float .f32 (Prod.fst (Prod.fst b))), (.float .f32 (Prod.fst (Prod.snd (Prod.fst b)))), (.float .f32 (Prod.snd (Prod.snd (Prod.fst b))))]), (.box [(.float .f32 (Prod.fst (Prod.snd b))), (.float .f32 (Prod.fst (Prod.snd (Prod.snd b)))), (.float .f32 (Prod.snd (Prod.snd (Prod.snd b))))])]) := by kernel_rfl
theorem r_impl_SplitBox_5_8 (b : V6) (Kn : Fr → Heap → Prop) (K : V → Heap → Prop) : round c_impl_SplitBox ⟨[1,2,3,5,6,7,23],5,false⟩ (lb c_impl_SplitBox 5 Try.f7) (fr_impl_SplitBox_5 b (8 : Int)) (hp_impl_SplitBox_5 b (8 : Int)) Kn (lk c_impl_SplitBox 5 Try.f7 [] K) =
  cond (fgt FloatKind.f32 (fsub FloatKind.f32 (Prod.snd (Prod.snd (Prod.snd b))) (Prod.snd (Prod.snd (Prod.fst b)))) (fsub FloatKind.f32 (Prod.snd (Prod.snd (Prod.snd b))) (Prod.snd (Prod.snd (Prod.fst b)))))
    (Kn [(1, (.ptr 0 0)), (2, (.ptr 1 0)), (3, (.ptr 2 0)), (5, (.ptr 3 0)), (6, (.ptr 4 0)), (7, (.int .i64 (iM 8))), (23, (.int .i64 (IntKind.wrap IntKind.i64 (iM 8 + 1))))] [(.box [(.float .f32 (Prod.fst (Prod.fst b))), (.float .f32 (Prod.fst (Prod.snd (Prod.fst b)))), (.float .f32 (Prod.snd (Prod.snd (Prod.fst b)))), (.float .f32 (Prod.fst (Prod.snd b))), (.float .f32 (Prod.fst (Prod.snd (Prod.snd b)))), (.float .f32 (Prod.snd (Prod.snd (Prod.snd b))))]), (.box [(.float .f32 0), (.float .f32 0), (.float .f32 0), (.float .f32 0), (.float .f32 0), (.float .f32 0)]), (.box [(.float .f32 0), (.float .f32 0), (.float .f32 0), (.float .f32 0), (.float .f32 0), (.float .f32 0)]), (.box [(.float .f32 (Prod.fst (Prod.fst b))), (.float .f32 (Prod.fst (Prod.snd (Prod.fst b)))), (.float .f32 (Prod.snd (Prod.snd (Prod.fst b))))]), (.box [(.float .f32 (Prod.fst (Prod.snd b))), (.float .f32 (Prod.fst (Prod.snd (Prod.snd b)))), (.float .f32 (Prod.snd (Prod.snd (Prod.snd b))))])])
    (Kn [(1, (.ptr 0 0)), (2, (.ptr 1 0)), (3, (.ptr 2 0)), (5, (.ptr 3 0)), (6, (.ptr 4 0)), (7, (.int .i64 (axM 8))), (23, (.int .i64 (IntKind.wrap IntKind.i64 (iM 8 + 1))))] [(.box [(.float .f32 (Prod.fst (Prod.fst b))), (.float .f32 (Prod.fst (Prod.snd (Prod.fst b)))), (.float .f32 (Prod.snd (Prod.snd (Prod.fst b)))), (.float .f32 (Prod.fst (Prod.snd b))), (.float .f32 (Prod.fst (Prod.snd (Prod.snd b)))), (.float .f32 (Prod.snd (Prod.snd (Prod.snd b))))]), (.box [(.float .f32 0), (.float .f32 0), (.float .f32 0), (.float .f32 0), (.float .f32 0), (.float .f32 0)]), (.box [(.float .f32 0), (.float .f32 0), (.float .f32 0), (.float .f32 0), (.float .f32 0), (.float .f32 0)]), (.box [(.float .f32 (Prod.fst (Prod.fst b))), (.float .f32 (Prod.fst (Prod.snd (Prod.fst b)))), (.float .f32 (Prod.snd (Prod.snd (Prod.fst b))))]), (.box [(.float .f32 (Prod.fst (Prod.snd b))), (.float .f32 (Prod.fst (Prod.snd (Prod.snd b)))), (.float .f32 (Prod.snd (Prod.snd (Prod.snd b))))])]) := by kernel_rfl
theorem r_impl_SplitBox_5_9 (b : V6) (Kn : Fr → Heap → Prop) (K : V → Heap → Prop) : round c_impl_SplitBox ⟨[1,2,3,5,6,7,23],5,false⟩ (lb c_impl_SplitBox 5 Try.f7) (fr_impl_SplitBox_5 b (9 : Int)) (hp_impl_SplitBox_5 b (9 : Int)) Kn (lk c_impl_SplitBox 5 Try.f7 [] K) =
  cond (!validB (Prod.fst b, fadd FloatKind.f32 (Prod.fst (Prod.fst b)) (fdiv FloatKind.f32 (fsub FloatKind.f32 (Prod.fst (Prod.snd b)) (Prod.fst (Prod.fst b))) 1073741824), Prod.snd (Prod.snd b)))
    (K (.tuple [(.agg [(.float .f32 0), (.float .f32 0), (.float .f32 0), (.float .f32 0), (.float .f32 0), (.float .f32 0)]), (.agg [(.float .f32 0), (.float .f32 0), (.float .f32 0), (.float .f32 0), (.float .f32 0), (.float .f32 0)]), (.bool false)]) [])
    (cond (!validB ((fadd FloatKind.f32 (Prod.fst (Prod.fst b)) (fdiv FloatKind.f32 (fsub FloatKind.f32 (Prod.fst (Prod.snd b)) (Prod.fst (Prod.fst b))) 1073741824), Prod.snd (Prod.fst b)), Prod.snd b))
      (K (.tuple [(.agg [(.float .f32 0), (.float .f32 0), (.float .f32 0), (.float .f32 0), (.float .f32 0), (.float .f32 0)]), (.agg [(.float .f32 0), (.float .f32 0), (.float .f32 0), (.float .f32 0), (.float .f32 0), (.float .f32 0)]), (.bool false)]) [])
      (K (.tuple [(.agg [(.float .f32 (Prod.fst (Prod.fst b))), (.float .f32 (Prod.fst (Prod.snd (Prod.fst b)))), (.float .f32 (Prod.snd (Prod.snd (Prod.fst b)))), (.float .f32 (fadd FloatKind.f32 (Prod.fst (Prod.fst b)) (fdiv FloatKind.f32 (fsub FloatKind.f32 (Prod.fst (Prod.snd b)) (Prod.fst (Prod.fst b))) 1073741824))), (.float .f32 (Prod.fst (Prod.snd (Prod.snd b)))), (.float .f32 (Prod.snd (Prod.snd (Prod.snd b))))]), (.agg [(.float .f32 (fadd FloatKind.f32 (Prod.fst (Prod.fst b)) (fdiv FloatKind.f32 (fsub FloatKind.f32 (Prod.fst (Prod.snd b)) (Prod.fst (Prod.fst b))) 1073741824))), (.float .f32 (Prod.fst (Prod.snd (Prod.fst b)))), (.float .f32 (Prod.snd (Prod.snd (Prod.fst b)))), (.float .f32 (Prod.fst (Prod.snd b))), (.float .f32 (Prod.fst (Prod.snd (Prod.snd b)))), (.float .f32 (Prod.snd (Prod.snd (Prod.snd b))))]), (.bool true)]) [])) := by kernel_rfl
theorem r_impl_SplitBox_5_10 (b : V6) (Kn : Fr → Heap → Prop) (K : V → Heap → Prop) : round c_impl_SplitBox ⟨[1,2,3,5,6,7,23],5,false⟩ (lb c_impl_SplitBox 5 Try.f7) (fr_impl_SplitBox_5 b (10 : Int)) (hp_impl_SplitBox_5 b (10 : Int)) Kn (lk c_impl_SplitBox 5 Try.f7 [] K) =
  cond (!validB (Prod.fst b, Prod.fst (Prod.snd b), fadd FloatKind.f32 (Prod.fst (Prod.snd (Prod.fst b))) (fdiv FloatKind.f32 (fsub FloatKind.f32 (Prod.fst (Prod.snd (Prod.snd b))) (Prod.fst (Prod.snd (Prod.fst b)))) 1073741824), Prod.snd (Prod.snd (Prod.snd b))))
    (K (.tuple [(.agg [(.float .f32 0), (.float .f32 0), (.float .f32 0), (.float .f32 0), (.float .f32 0), (.float .f32 0)]), (.agg [(.float .f32 0), (.float .f32 0), (.float .f32 0), (.float .f32 0), (.float .f32 0), (.float .f32 0)]), (.bool false)]) [])
    (cond (!validB ((Prod.fst (Prod.fst b), fadd FloatKind.f32 (Prod.fst (Prod.snd (Prod.fst b))) (fdiv FloatKind.f32 (fsub FloatKind.f32 (Prod.fst (Prod.snd (Prod.snd b))) (Prod.fst (Prod.snd (Prod.fst b)))) 1073741824), Prod.snd (Prod.snd (Prod.fst b))), Prod.snd b))
      (K (.tuple [(.agg [(.float .f32 0), (.float .f32 0), (.float .f32 0), (.float .f32 0), (.float .f32 0), (.float .f32 0)]), (.agg [(.float .f32 0), (.float .f32 0), (.float .f32 0), (.float .f32 0), (.float .f32 0), (.float .f32 0)]), (.bool false)]) [])
      (K (.tuple [(.agg [(.float .f32 (Prod.fst (Prod.fst b))), (.float .f32 (Prod.fst (Prod.snd (Prod.fst b)))), (.float .f32 (Prod.snd (Prod.snd (Prod.fst b)))), (.float .f32 (Prod.fst (Prod.snd b))), (.float .f32 (fadd FloatKind.f32 (Prod.fst (Prod.snd (Prod.fst b))) (fdiv FloatKind.f32 (fsub FloatKind.f32 (Prod.fst (Prod.snd (Prod.snd b))) (Prod.fst (Prod.snd (Prod.fst b)))) 1073741824))), (.float .f32 (Prod.snd (Prod.snd (Prod.snd b))))]), (.agg [(.float .f32 (Prod.fst (Prod.fst b))), (.float .f32 (fadd FloatKind.f32 (Prod.fst (Prod.snd (Prod.fst b))) (fdiv FloatKind.f32 (fsub FloatKind.f32 (Prod.fst (Prod.snd (Prod.snd b))) (Prod.fst (Prod.snd (Prod.fst b)))) 1073741824))), (.float .f32 (Prod.snd (Prod.snd (Prod.fst b)))), (.float .f32 (Prod.fst (Prod.snd b))), (.float .f32 (Prod.fst (Prod.snd (Prod.snd b)))), (.float .f32 (Prod.snd (Prod.snd (Prod.snd b))))]), (.bool true)]) [])) := by kernel_rfl
theorem r_impl_SplitBox_5_11 (b : V6) (Kn : Fr → Heap → Prop) (K : V → Heap → Prop) : round c_impl_SplitBox ⟨[1,2,3,5,6,7,23],5,false⟩ (lb c_impl_SplitBox 5 Try.f7) (fr_impl_SplitBox_5 b (11 : Int)) (hp_impl_SplitBox_5 b (11 : Int)) Kn (lk c_impl_SplitBox 5 Try.f7 [] K) =
  cond (!validB (Prod.fst b, Prod.fst (Prod.snd b), Prod.fst (Prod.snd (Prod.snd b)), fadd FloatKind.f32 (Prod.snd (Prod.snd (Prod.fst b))) (fdiv FloatKind.f32 (fsub FloatKind.f32 (Prod.snd (Prod.snd (Prod.snd b))) (Prod.snd (Prod.snd (Prod.fst b)))) 1073741824)))
    (K (.tuple [(.agg [(.float .f32 0), (.float .f32 0), (.float .f32 0), (.float .f32 0), (.float .f32 0), (.float .f32 0)]), (.agg [(.float .f32 0), (.float .f32 0), (.float .f32 0), (.float .f32 0), (.float .f32 0), (.float .f32 0)]), (.bool false)]) [])
    (cond (!validB ((Prod.fst (Prod.fst b), Prod.fst (Prod.snd (Prod.fst b)), fadd FloatKind.f32 (Prod.snd (Prod.snd (Prod.fst b))) (fdiv FloatKind.f32 (fsub FloatKind.f32 (Prod.snd (Prod.snd (Prod.snd b))) (Prod.snd (Prod.snd (Prod.fst b)))) 1073741824)), Prod.snd b))
      (K (.tuple [(.agg [(.float .f32 0), (.float .f32 0), (.float .f32 0), (.float .f32 0), (.float .f32 0), (.float .f32 0)]), (.agg [(.float .f32 0), (.float .f32 0), (.float .f32 0), (.float .f32 0), (.float .f32 0), (.float .f32 0)]), (.bool false)]) [])
      (K (.tuple [(.agg [(.float .f32 (Prod.fst (Prod.fst b))), (.float .f32 (Prod.fst (Prod.snd (Prod.fst b)))), (.float .f32 (Prod.snd (Prod.snd (Prod.fst b)))), (.float .f32 (Prod.fst (Prod.snd b))), (.float .f32 (Prod.fst (Prod.snd (Prod.snd b)))), (.float .f32 (fadd FloatKind.f32 (Prod.snd (Prod.snd (Prod.fst b))) (fdiv FloatKind.f32 (fsub FloatKind.f32 (Prod.snd (Prod.snd (Prod.snd b))) (Prod.snd (Prod.snd (Prod.fst b)))) 1073741824)))]), (.agg [(.float .f32 (Prod.fst (Prod.fst b))), (.float .f32 (Prod.fst (Prod.snd (Prod.fst b)))), (.float .f32 (fadd FloatKind.f32 (Prod.snd (Prod.snd (Prod.fst b))) (fdiv FloatKind.f32 (fsub FloatKind.f32 (Prod.snd (Prod.snd (Prod.snd b))) (Prod.snd (Prod.snd (Prod.fst b)))) 1073741824))), (.float .f32 (Prod.fst (Prod.snd b))), (.float .f32 (Prod.fst (Prod.snd (Prod.snd b)))), (.float .f32 (Prod.snd (Prod.snd (Prod.snd b))))]), (.bool true)]) [])) := by kernel_rfl
theorem w_impl_SplitBox (b : V6) (K : V → Heap → Prop) : wpFn c_impl_SplitBox Try.f7 (encAs [.agg tX] (b, ())) [] K =
  cond (!validB b)
    (K (.tuple [(.agg [(.float .f32 0), (.float .f32 0), (.float .f32 0), (.float .f32 0), (.float .f32 0), (.float .f32 0)]), (.agg [(.float .f32 0), (.float .f32 0), (.float .f32 0), (.float .f32 0), (.float .f32 0), (.float .f32 0)]), (.bool false)]) [])
    (LoopE c_impl_SplitBox ⟨[1, 2, 3, 5, 6, 7, 23], 5, false⟩ (lb c_impl_SplitBox 5 Try.f7) [(1, (.ptr 0 0)), (2, (.ptr 1 0)), (3, (.ptr 2 0)), (5, (.ptr 3 0)), (6, (.ptr 4 0)), (7, (.int .i64 0)), (23, (.int .i64 0))] [(.box [(.float .f32 (Prod.fst (Prod.fst b))), (.float .f32 (Prod.fst (Prod.snd (Prod.fst b)))), (.float .f32 (Prod.snd (Prod.snd (Prod.fst b)))), (.float .f32 (Prod.fst (Prod.snd b))), (.float .f32 (Prod.fst (Prod.snd (Prod.snd b)))), (.float .f32 (Prod.snd (Prod.snd (Prod.snd b))))]), (.box [(.float .f32 0), (.float .f32 0), (.float .f32 0), (.float .f32 0), (.float .f32 0), (.float .f32 0)]), (.box [(.float .f32 0), (.float .f32 0), (.float .f32 0), (.float .f32 0), (.float .f32 0), (.float .f32 0)]), (.box [(.float .f32 (Prod.fst (Prod.fst b))), (.float .f32 (Prod.fst (Prod.snd (Prod.fst b)))), (.float .f32 (Prod.snd (Prod.snd (Prod.fst b))))]), (.box [(.float .f32 (Prod.fst (Prod.snd b))), (.float .f32 (Prod.fst (Prod.snd (Prod.snd b)))), (.float .f32 (Prod.snd (Prod.snd (Prod.snd b))))])] (lk c_impl_SplitBox 5 Try.f7 [] K)) := by kernel_rfl
noncomputable def s_impl_SplitBox : Sm := semG [.agg tX] (fun x => match x with | (b, _) => splOk b) fun x => match x with | (b, _) => .tuple [.agg (enc tX (oneB b)), .agg (enc tX (twoB b)), .bool true]
theorem ok_impl_SplitBox : FnOk Try.prog 7 s_impl_SplitBox := fnOk_typedG (fnOk_runC (C := c_impl_SplitBox) rfl mixed (.cons ok_impl_ValidBox (.cons ok_impl_coordinates (.cons ok_impl_vectorOf .nil))) .nil .nil Try.func7 (by kernel_rfl) (.cons ok_impl_coordinates (.cons ok_impl_vectorOf .nil))) fun (x : ((V6) × Unit)) wf hg K h => by
  obtain ⟨b, ⟨⟩⟩ := x
  replace hg : (splOk b) = true := hg
  replace h : K (.tuple [.agg (enc tX (oneB b)), .agg (enc tX (twoB b)), .bool true]) [] := h
  rw [w_impl_SplitBox b K]
  unfold splOk at hg
  simp only [Bool.and_eq_true] at hg
  obtain ⟨g1, g2, g3⟩ := hg
  rw [g1, Bool.not_true, cond_false]
  refine loop_run (σ := Nat × Nat) (fun q => fr_impl_SplitBox_5 b ((3 * q.1 + q.2 : Nat) : Int)) (fun q => hp_impl_SplitBox_5 b ((3 * q.1 + q.2 : Nat) : Int)) (fun q => q.1 ≤ 3 ∧ q.2 ≤ 2 ∧ axN b q.1 = (q.2 : Int)) (fun q => 3 - q.1) ?_ (0, 0) ⟨by simp, by simp, rfl⟩
  rintro ⟨i, c⟩ ⟨hi, hc, e⟩ Kn hk
  simp only at hi hc e hk ⊢
  have hi' : i = 0 ∨ i = 1 ∨ i = 2 ∨ i = 3 := by omega
  have hc' : c = 0 ∨ c = 1 ∨ c = 2 := by omega
  clear hi hc
  rcases hi' with rfl | rfl | rfl | rfl <;> rcases hc' with rfl | rfl | rfl
  · refine Eq.mpr (r_impl_SplitBox_5_0 b Kn K) ?_
    exact stepK (fun hz => hk (1, 0) ⟨by omega, by omega, (show stepA b (axN b 0) ((0 : Nat) : Int) = _ by rw [e]; exact congrArg (fun z => bif z then ((0 : Nat) : Int) else ((0 : Nat) : Int)) hz)⟩ (by omega)) (fun hz => hk (1, 0) ⟨by omega, by omega, (show stepA b (axN b 0) ((0 : Nat) : Int) = _ by rw [e]; exact congrArg (fun z => bif z then ((0 : Nat) : Int) else ((0 : Nat) : Int)) hz)⟩ (by omega))
  · refine Eq.mpr (r_impl_SplitBox_5_1 b Kn K) ?_
    exact stepK (fun hz => hk (1, 0) ⟨by omega, by omega, (show stepA b (axN b 0) ((0 : Nat) : Int) = _ by rw [e]; exact congrArg (fun z => bif z then ((0 : Nat) : Int) else ((1 : Nat) : Int)) hz)⟩ (by omega)) (fun hz => hk (1, 1) ⟨by omega, by omega, (show stepA b (axN b 0) ((0 : Nat) : Int) = _ by rw [e]; exact congrArg (fun z => bif z then ((0 : Nat) : Int) else ((1 : Nat) : Int)) hz)⟩ (by omega))
  · refine Eq.mpr (r_impl_SplitBox_5_2 b Kn K) ?_
    exact stepK (fun hz => hk (1, 0) ⟨by omega, by omega, (show stepA b (axN b 0) ((0 : Nat) : Int) = _ by rw [e]; exact congrArg (fun z => bif z then ((0 : Nat) : Int) else ((2 : Nat) : Int)) hz)⟩ (by omega)) (fun hz => hk (1, 2) ⟨by omega, by omega, (show stepA b (axN b 0) ((0 : Nat) : Int) = _ by rw [e]; exact congrArg (fun z => bif z then ((0 : Nat) : Int) else ((2 : Nat) : Int)) hz)⟩ (by omega))
  · refine Eq.mpr (r_impl_SplitBox_5_3 b Kn K) ?_
    exact stepK (fun hz => hk (2, 1) ⟨by omega, by omega, (show stepA b (axN b 1) ((1 : Nat) : Int) = _ by rw [e]; exact congrArg (fun z => bif z then ((1 : Nat) : Int) else ((0 : Nat) : Int)) hz)⟩ (by omega)) (fun hz => hk (2, 0) ⟨by omega, by omega, (show stepA b (axN b 1) ((1 : Nat) : Int) = _ by rw [e]; exact congrArg (fun z => bif z then ((1 : Nat) : Int) else ((0 : Nat) : Int)) hz)⟩ (by omega))
  · refine Eq.mpr (r_impl_SplitBox_5_4 b Kn K) ?_
    exact stepK (fun hz => hk (2, 1) ⟨by omega, by omega, (show stepA b (axN b 1) ((1 : Nat) : Int) = _ by rw [e]; exact congrArg (fun z => bif z then ((1 : Nat) : Int) else ((1 : Nat) : Int)) hz)⟩ (by omega)) (fun hz => hk (2, 1) ⟨by omega, by omega, (show stepA b (axN b 1) ((1 : Nat) : Int) = _ by rw [e]; exact congrArg (fun z => bif z then ((1 : Nat) : Int) else ((1 : Nat) : Int)) hz)⟩ (by omega))
  · refine Eq.mpr (r_impl_SplitBox_5_5 b Kn K) ?_
    exact stepK (fun hz => hk (2, 1) ⟨by omega, by omega, (show stepA b (axN b 1) ((1 : Nat) : Int) = _ by rw [e]; exact congrArg (fun z => bif z then ((1 : Nat) : Int) else ((2 : Nat) : Int)) hz)⟩ (by omega)) (fun hz => hk (2, 2) ⟨by omega, by omega, (show stepA b (axN b 1) ((1 : Nat) : Int) = _ by rw [e]; exact congrArg (fun z => bif z then ((1 : Nat) : Int) else ((2 : Nat) : Int)) hz)⟩ (by omega))
  · refine Eq.mpr (r_impl_SplitBox_5_6 b Kn K) ?_
    exact stepK (fun hz => hk (3, 2) ⟨by omega, by omega, (show stepA b (axN b 2) ((2 : Nat) : Int) = _ by rw [e]; exact congrArg (fun z => bif z then ((2 : Nat) : Int) else ((0 : Nat) : Int)) hz)⟩ (by omega)) (fun hz => hk (3, 0) ⟨by omega, by omega, (show stepA b (axN b 2) ((2 : Nat) : Int) = _ by rw [e]; exact congrArg (fun z => bif z then ((2 : Nat) : Int) else ((0 : Nat) : Int)) hz)⟩ (by omega))
  · refine Eq.mpr (r_impl_SplitBox_5_7 b Kn K) ?_
    exact stepK (fun hz => hk (3, 2) ⟨by omega, by omega, (show stepA b (axN b 2) ((2 : Nat) : Int) = _ by rw [e]; exact congrArg (fun z => bif z then ((2 : Nat) : Int) else ((1 : Nat) : Int)) hz)⟩ (by omega)) (fun hz => hk (3, 1) ⟨by omega, by omega, (show stepA b (axN b 2) ((2 : Nat) : Int) = _ by rw [e]; exact congrArg (fun z => bif z then ((2 : Nat) : Int) else ((1 : Nat) : Int)) hz)⟩ (by omega))
  · refine Eq.mpr (r_impl_SplitBox_5_8 b Kn K) ?_
    exact stepK (fun hz => hk (3, 2) ⟨by omega, by omega, (show stepA b (axN b 2) ((2 : Nat) : Int) = _ by rw [e]; exact congrArg (fun z => bif z then ((2 : Nat) : Int) else ((2 : Nat) : Int)) hz)⟩ (by omega)) (fun hz => hk (3, 2) ⟨by omega, by omega, (show stepA b (axN b 2) ((2 : Nat) : Int) = _ by rw [e]; exact congrArg (fun z => bif z then ((2 : Nat) : Int) else ((2 : Nat) : Int)) hz)⟩ (by omega))
  · refine Eq.mpr (r_impl_SplitBox_5_9 b Kn K) ?_
    have e3 : axisB b = ((0 : Nat) : Int) := e
    simp only [oneB, twoB, midB, e3] at g2 g3 h
    exact notK g2 (notK g3 h)
  · refine Eq.mpr (r_impl_SplitBox_5_10 b Kn K) ?_
    have e3 : axisB b = ((1 : Nat) : Int) := e
    simp only [oneB, twoB, midB, e3] at g2 g3 h
    exact notK g2 (notK g3 h)
  · refine Eq.mpr (r_impl_SplitBox_5_11 b Kn K) ?_
    have e3 : axisB b = ((2 : Nat) : Int) := e
    simp only [oneB, twoB, midB, e3] at g2 g3 h
    exact notK g2 (notK g3 h)

--B sidS SrcD → SrcD
def sidS (s : SrcD) : SrcD := pickS s 9
--B lowV SrcD → Nat × Nat × Nat
def lowV (s : SrcD) : V3 := (smallV s, smallV (smallS s), smallV (smallS (smallS s)))
def upV (x : Nat) (s : SrcD) : Nat := fadd .f32 x (fdiv .f32 (FloatKind.f32.nearest (pickV s 9)) 1082130432)
def boxV (s : SrcD) : V6 := (lowV s, (upV (lowV s).1 (smallS (smallS (smallS s))), upV (lowV s).2.1 (sidS (smallS (smallS (smallS s)))), upV (lowV s).2.2 (sidS (sidS (smallS (smallS (smallS s)))))))
--B boxS SrcD → SrcD
def boxS (s : SrcD) : SrcD := sidS (sidS (sidS (smallS (smallS (smallS s)))))
--B boxV SrcD → (Nat × Nat × Nat) × (Nat × Nat × Nat)
/-! spec.l04DrawOk -/
noncomputable def c_spec_l04DrawOk : Ctx := mkC Try.prog tyT [] [] [(22, s_spec_l01DrawSmall)] 42 (fun _ => none) 1 false [] false false true [(18, s_spec_l00Src_pick)]
theorem w_spec_l04DrawOk (s : SrcD) (K : V → Heap → Prop) : wpFnO c_spec_l04DrawOk Try.f17 (.ptr 0 0 :: encAs [] ()) [.box (enc tSrc s)] K =
  cond (srcIn 5 s)
    (cond (srcIn 5 (smallS s))
      (cond (srcIn 5 (smallS (smallS s)))
        (cond (srcIn 6 (smallS (smallS (smallS s))))
          (cond (srcIn 6 (pickS (smallS (smallS (smallS s))) 9))
            (cond (srcIn 6 (pickS (pickS (smallS (smallS (smallS s))) 9) 9))
              (K (.agg [(.float .f32 (smallV s)), (.float .f32 (smallV (smallS s))), (.float .f32 (smallV (smallS (smallS s)))), (.float .f32 (fadd FloatKind.f32 (smallV s) (fdiv FloatKind.f32 (FloatKind.nearest FloatKind.f32 (pickV (smallS (smallS (smallS s))) 9)) 1082130432))), (.float .f32 (fadd FloatKind.f32 (smallV (smallS s)) (fdiv FloatKind.f32 (FloatKind.nearest FloatKind.f32 (pickV (pickS (smallS (smallS (smallS s))) 9) 9)) 1082130432))), (.float .f32 (fadd FloatKind.f32 (smallV (smallS (smallS s))) (fdiv FloatKind.f32 (FloatKind.nearest FloatKind.f32 (pickV (pickS (pickS (smallS (smallS (smallS s))) 9) 9) 9)) 1082130432)))]) [(.box [(.vec (.int .u8) (Prod.fst (pickS (pickS (pickS (smallS (smallS (smallS s))) 9) 9) 9))), (.int .i64 (Prod.fst (Prod.snd (pickS (pickS (pickS (smallS (smallS (smallS s))) 9) 9) 9)))), (.int .u64 (Prod.snd (Prod.snd (pickS (pickS (pickS (smallS (smallS (smallS s))) 9) 9) 9))))])])
              (False))
            (False))
          (False))
        (False))
      (False))
    (False) := by kernel_rfl
noncomputable def s_spec_l04DrawOk : Sm := semP tSrc [] (fun s x => match x with | _ => srcIn 1 s) fun s x => match x with | _ => (.agg (enc tX (boxV s)), boxS s)
theorem ok_spec_l04DrawOk : FnOkL Try.prog 17 s_spec_l04DrawOk := fnOkO_box (fnOkO_runC (C := c_spec_l04DrawOk) rfl mixed .nil .nil (.cons ok_spec_l01DrawSmall .nil) Try.func17 (by kernel_rfl) (h5 := (.cons ok_spec_l00Src_pick (by first | exact semP_localE _ _ _ _ | exact semPG_localE _ _ _ _ _ | exact semV_localE _ _ _ _) .nil))) fun (s : SrcD) (x : Unit) ws wf hg K h => by
  obtain ⟨⟩ := x
  replace hg : (srcIn 1 s) = true := hg
  replace h : K (.agg (enc tX (boxV s))) [.box (enc tSrc (boxS s))] := h
  rw [w_spec_l04DrawOk s  K]
  have g1 := srcIn_pick 33 hg
  have g2 := srcIn_pick 33 g1
  have g3 := srcIn_pick 33 g2
  have g4 := srcIn_pick 9 g3
  have g5 := srcIn_pick 9 g4
  simp only [smallS]
  rw [srcIn_mono (M := 5) hg (by omega), srcIn_mono (M := 5) g1 (by omega), srcIn_mono (M := 5) g2 (by omega), srcIn_mono (M := 6) g3 (by omega), srcIn_mono (M := 6) g4 (by omega), g5]
  exact h

def wiV (s : SrcD) (l h : Nat) : Nat := fadd .f32 l (fdiv .f32 (fmul .f32 (fsub .f32 h l) (FloatKind.f32.nearest (pickV s 17))) 1098907648)
--B inV List Int → (Nat × Nat × Nat) × (Nat × Nat × Nat) → Nat × Nat × Nat
def inV (xs : List Int) (b : V6) : V3 := (wiV (xs, 0, 0) b.1.1 b.2.1, wiV (pickS (xs, 0, 0) 17) b.1.2.1 b.2.2.1, wiV (pickS (pickS (xs, 0, 0) 17) 17) b.1.2.2 b.2.2.2)
/-! spec.R8Within -/
noncomputable def c_spec_R8Within : Ctx := mkC Try.prog tyT [] [] [(16, s_spec_l00From)] 61 (fun _ => none) 0 false [] false true true [(18, s_spec_l00Src_pick)]
theorem w_spec_R8Within (xs : List Int) (b : V6) (K : V → Heap → Prop) : wpFn c_spec_R8Within Try.f6 (encAs [.cell tB, .agg tX] (xs, b, ())) [] K =
  cond (srcIn 6 (pickS (xs, 0, 0) 17))
    (cond (srcIn 6 (pickS (pickS (xs, 0, 0) 17) 17))
      (K (.agg [(.float .f32 (fadd FloatKind.f32 (Prod.fst (Prod.fst b)) (fdiv FloatKind.f32 (fmul FloatKind.f32 (fsub FloatKind.f32 (Prod.fst (Prod.snd b)) (Prod.fst (Prod.fst b))) (FloatKind.nearest FloatKind.f32 (pickV (xs, 0, 0) 17))) 1098907648))), (.float .f32 (fadd FloatKind.f32 (Prod.fst (Prod.snd (Prod.fst b))) (fdiv FloatKind.f32 (fmul FloatKind.f32 (fsub FloatKind.f32 (Prod.fst (Prod.snd (Prod.snd b))) (Prod.fst (Prod.snd (Prod.fst b)))) (FloatKind.nearest FloatKind.f32 (pickV (pickS (xs, 0, 0) 17) 17))) 1098907648))), (.float .f32 (fadd FloatKind.f32 (Prod.snd (Prod.snd (Prod.fst b))) (fdiv FloatKind.f32 (fmul FloatKind.f32 (fsub FloatKind.f32 (Prod.snd (Prod.snd (Prod.snd b))) (Prod.snd (Prod.snd (Prod.fst b)))) (FloatKind.nearest FloatKind.f32 (pickV (pickS (pickS (xs, 0, 0) 17) 17) 17))) 1098907648)))]) [])
      (False))
    (False) := by kernel_rfl
noncomputable def s_spec_R8Within : Sm := semT [.cell tB, .agg tX] fun x => match x with | (xs, b, _) => .agg (enc tV (inV xs b))
theorem ok_spec_R8Within : FnOk Try.prog 6 s_spec_R8Within := fnOk_typed (fnOk_runC (C := c_spec_R8Within) rfl mixed .nil .nil (.cons ok_spec_l00From .nil) Try.func6 (by kernel_rfl) (h5 := (.cons ok_spec_l00Src_pick (by first | exact semP_localE _ _ _ _ | exact semPG_localE _ _ _ _ _ | exact semV_localE _ _ _ _) .nil))) fun (x : ((List Int) × (V6) × Unit)) wf K h => by
  obtain ⟨xs, b, ⟨⟩⟩ := x
  replace h : K (.agg (enc tV (inV xs b))) [] := h
  rw [w_spec_R8Within xs b K]
  have g0 : srcIn 1 (xs, 0, 0) = true := srcIn_iff.2 ⟨Int.le_refl _, by show (0 : Int) ≤ _; decide⟩
  have g1 := srcIn_pick 17 g0
  have g2 := srcIn_pick 17 g1
  rw [srcIn_mono (M := 6) g1 (by omega), srcIn_mono (M := 6) g2 (by omega)]
  exact h

--B bxV List Int → (Nat × Nat × Nat) × (Nat × Nat × Nat)
def bxV (xs : List Int) : V6 := boxV (xs, 0, 0)
/-! spec.R8Box -/
noncomputable def c_spec_R8Box : Ctx := mkC Try.prog tyT [] [] [(16, s_spec_l00From), (17, s_spec_l04DrawOk)] 8 (fun _ => none) 0
theorem w_spec_R8Box (xs : List Int) (K : V → Heap → Prop) : wpFn c_spec_R8Box Try.f5 (encAs [.cell tB] (xs, ())) [] K =
  K (.agg [(.float .f32 (Prod.fst (Prod.fst (boxV (xs, 0, 0))))), (.float .f32 (Prod.fst (Prod.snd (Prod.fst (boxV (xs, 0, 0)))))), (.float .f32 (Prod.snd (Prod.snd (Prod.fst (boxV (xs, 0, 0)))))), (.float .f32 (Prod.fst (Prod.snd (boxV (xs, 0, 0))))), (.float .f32 (Prod.fst (Prod.snd (Prod.snd (boxV (xs, 0, 0)))))), (.float .f32 (Prod.snd (Prod.snd (Prod.snd (boxV (xs, 0, 0))))))]) [] := by kernel_rfl
noncomputable def s_spec_R8Box : Sm := semT [.cell tB] fun x => match x with | (xs, _) => .agg (enc tX (bxV xs))
theorem ok_spec_R8Box : FnOk Try.prog 5 s_spec_R8Box := fnOk_typed (fnOk_runC (C := c_spec_R8Box) rfl mixed .nil .nil (.cons ok_spec_l00From (.cons ok_spec_l04DrawOk .nil)) Try.func5 (by kernel_rfl)) fun (x : ((List Int) × Unit)) wf K h => by
  obtain ⟨xs, ⟨⟩⟩ := x
  replace h : K (.agg (enc tX (bxV xs))) [] := h
  rw [w_spec_R8Box xs K]
  exact h

end Go.Proofs.Ytfdalaakechldaa
