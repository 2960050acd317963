/- Desks: when they are valid. -/
import Derived.Test.YtobdbgdgingjjaaShapes
set_option linter.unusedVariables false
set_option linter.unusedSimpArgs false
set_option maxRecDepth 100000
namespace Go.Proofs.Ytobdbgdgingjjaa
open Go.Ev

abbrev tD : Ty := .pair (.slice .str) (.slice tS)
abbrev Str := List UInt8
--B lower UInt8 → Bool
def lower (b : UInt8) : Bool := !(decide ((b.toNat : Int) < 97) || decide ((b.toNat : Int) > 122))
--B nameB Str → Bool
def nameB (s : Str) : Bool := s.all lower && (decide ((s.length : Int) ≥ 1) && decide ((s.length : Int) ≤ 8))
theorem all_snoc {α : Type} {f : α → Bool} {xs : List α} {i : Nat} (hi : i < xs.length) (h : (xs.take i).all f = true) (hp : f (xs[i]'hi) = true) : (xs.take (i + 1)).all f = true := by
  rw [take_one hi, List.all_append, h]
  simp [hp]
theorem all_no {α : Type} {f : α → Bool} {xs : List α} {i : Nat} (hi : i < xs.length) (h : f (xs[i]'hi) = false) : xs.all f = false :=
  List.all_eq_false.2 ⟨_, List.getElem_mem hi, by simp [h]⟩

/-! impl.IsName -/
noncomputable def a_impl_IsName : Nat → Option Ann := fun n => bif Nat.beq n 2 then some ⟨[0,5,6],0⟩ else none
noncomputable def c_impl_IsName : Ctx := mkC Try.prog tyT [] [] [] 28 a_impl_IsName 0
noncomputable def fr_impl_IsName_2 (s : Str) (n i : Int) : Fr := [(0, .str s), (5, .int .i64 n), (6, .int .i64 i)]
theorem r_impl_IsName_2 (s : Str) (n i : Int) (Kn : Fr → Heap → Prop) (K : V → Heap → Prop) : round c_impl_IsName ⟨[0,5,6],0⟩ (lb c_impl_IsName 2 Try.f71) (fr_impl_IsName_2 s n i) [] Kn (lk c_impl_IsName 2 Try.f71 [] K) =
  cond (decide (i < n))
    (cond (decide (0 ≤ i))
      ((match s[Int.toNat i]? with
        | some b0 => cond (decide ((↑(UInt8.toNat b0) : Int) < 97))
          (K (.bool false) [])
          (cond (decide (0 ≤ i))
            ((match s[Int.toNat i]? with
              | some b1 => cond (decide ((↑(UInt8.toNat b1) : Int) > 122))
                (K (.bool false) [])
                (Kn [(0, (.str (s))), (5, (.int .i64 (n))), (6, (.int .i64 (IntKind.wrap IntKind.i64 (i + 1))))] [])
              | none => False))
            (False))
        | none => False))
      (False))
    (cond (decide ((↑(List.length s) : Int) ≥ 1))
      (K (.bool (decide ((↑(List.length s) : Int) ≤ 8))) [])
      (K (.bool false) [])) := by kernel_rfl
theorem w_impl_IsName (s : Str) (K : V → Heap → Prop) : wpFn c_impl_IsName Try.f71 (encAs [.cell .str] (s, ())) [] K =
  LoopE c_impl_IsName ⟨[0, 5, 6], 0⟩ (lb c_impl_IsName 2 Try.f71) [(0, (.str (s))), (5, (.int .i64 ((↑(List.length s) : Int)))), (6, (.int .i64 0))] [] (lk c_impl_IsName 2 Try.f71 [] K) := by kernel_rfl
noncomputable def s_impl_IsName : Sm := semT [.cell .str] fun x => match x with | (s, _) => .bool (nameB s)
theorem ok_impl_IsName : FnOk Try.prog 71 s_impl_IsName := fnOk_typed (fnOk_runC (C := c_impl_IsName) rfl mixed .nil .nil .nil Try.func71 (by kernel_rfl)) fun (x : ((Str) × Unit)) wf K h => by
  obtain ⟨s, ⟨⟩⟩ := x
  replace h : K (.bool (nameB s)) [] := h
  rw [w_impl_IsName s K]
  obtain ⟨wl, _⟩ := wf
  have wl : s.length ≤ 9223372036854775807 := wl
  refine loop_run (σ := Nat) (fun i => fr_impl_IsName_2 s s.length i) (fun _ => []) (fun i => i ≤ s.length ∧ (s.take i).all lower = true) (fun i => s.length - i) ?_ 0 ⟨Nat.zero_le _, rfl⟩
  intro i hi Kn hk
  rw [r_impl_IsName_2 s s.length i Kn K]
  by_cases hlt : i < s.length
  · simp only [d_lt hlt, d_0, cond_true, Int.toNat_natCast, get_lt hlt]
    have no : lower (s[i]'hlt) = false → K (.bool false) [] := fun e => by
      unfold nameB at h
      rw [all_no hlt e] at h
      exact h
    cases e1 : decide (((s[i]'hlt).toNat : Int) < 97) with
    | true => exact no (by unfold lower; rw [e1]; rfl)
    | false =>
      simp only [cond_false]
      cases e2 : decide (((s[i]'hlt).toNat : Int) > 122) with
      | true => exact no (by unfold lower; rw [e1, e2]; rfl)
      | false =>
        simp only [cond_false]
        rw [i64_of (by omega) (by omega)]
        exact hk (i + 1) ⟨hlt, all_snoc hlt hi.2 (by unfold lower; rw [e1, e2]; rfl)⟩ (by omega)
  · have : i = s.length := by omega
    subst this
    simp only [d_nlt hlt, cond_false]
    have ha := hi.2
    rw [List.take_length] at ha
    unfold nameB at h
    rw [ha] at h
    revert h
    cases decide ((s.length : Int) ≥ 1) <;> exact id

/-! spec.IsName -/
noncomputable def a_spec_IsName : Nat → Option Ann := fun n => bif Nat.beq n 2 then some ⟨[0,3],0⟩ else none
noncomputable def c_spec_IsName : Ctx := mkC Try.prog tyT [] [] [] 28 a_spec_IsName 0
noncomputable def fr_spec_IsName_2 (s : Str) (i : Int) : Fr := [(0, .str s), (3, .int .i64 i)]
theorem r_spec_IsName_2 (s : Str) (i : Int) (Kn : Fr → Heap → Prop) (K : V → Heap → Prop) : round c_spec_IsName ⟨[0,3],0⟩ (lb c_spec_IsName 2 Try.f112) (fr_spec_IsName_2 s i) [] Kn (lk c_spec_IsName 2 Try.f112 [] K) =
  cond (decide (i < (↑(List.length s) : Int)))
    (cond (decide (0 ≤ i))
      ((match s[Int.toNat i]? with
        | some b0 => cond (decide ((↑(UInt8.toNat b0) : Int) < 97))
          (K (.bool false) [])
          (cond (decide (0 ≤ i))
            ((match s[Int.toNat i]? with
              | some b1 => cond (decide ((↑(UInt8.toNat b1) : Int) > 122))
                (K (.bool false) [])
                (Kn [(0, (.str (s))), (3, (.int .i64 (IntKind.wrap IntKind.i64 (i + 1))))] [])
              | none => False))
            (False))
        | none => False))
      (False))
    (cond (decide ((↑(List.length s) : Int) ≥ 1))
      (K (.bool (decide ((↑(List.length s) : Int) ≤ 8))) [])
      (K (.bool false) [])) := by kernel_rfl
theorem w_spec_IsName (s : Str) (K : V → Heap → Prop) : wpFn c_spec_IsName Try.f112 (encAs [.cell .str] (s, ())) [] K =
  LoopE c_spec_IsName ⟨[0, 3], 0⟩ (lb c_spec_IsName 2 Try.f112) [(0, (.str (s))), (3, (.int .i64 0))] [] (lk c_spec_IsName 2 Try.f112 [] K) := by kernel_rfl
noncomputable def s_spec_IsName : Sm := semT [.cell .str] fun x => match x with | (s, _) => .bool (nameB s)
theorem ok_spec_IsName : FnOk Try.prog 112 s_spec_IsName := fnOk_typed (fnOk_runC (C := c_spec_IsName) rfl mixed .nil .nil .nil Try.func112 (by kernel_rfl)) fun (x : ((Str) × Unit)) wf K h => by
  obtain ⟨s, ⟨⟩⟩ := x
  replace h : K (.bool (nameB s)) [] := h
  rw [w_spec_IsName s K]
  obtain ⟨wl, _⟩ := wf
  have wl : s.length ≤ 9223372036854775807 := wl
  refine loop_run (σ := Nat) (fun i => fr_spec_IsName_2 s i) (fun _ => []) (fun i => i ≤ s.length ∧ (s.take i).all lower = true) (fun i => s.length - i) ?_ 0 ⟨Nat.zero_le _, rfl⟩
  intro i hi Kn hk
  rw [r_spec_IsName_2 s i Kn K]
  by_cases hlt : i < s.length
  · simp only [d_lt hlt, d_0, cond_true, Int.toNat_natCast, get_lt hlt]
    have no : lower (s[i]'hlt) = false → K (.bool false) [] := fun e => by
      unfold nameB at h
      rw [all_no hlt e] at h
      exact h
    cases e1 : decide (((s[i]'hlt).toNat : Int) < 97) with
    | true => exact no (by unfold lower; rw [e1]; rfl)
    | false =>
      simp only [cond_false]
      cases e2 : decide (((s[i]'hlt).toNat : Int) > 122) with
      | true => exact no (by unfold lower; rw [e1, e2]; rfl)
      | false =>
        simp only [cond_false]
        rw [i64_of (by omega) (by omega)]
        exact hk (i + 1) ⟨hlt, all_snoc hlt hi.2 (by unfold lower; rw [e1, e2]; rfl)⟩ (by omega)
  · have : i = s.length := by omega
    subst this
    simp only [d_nlt hlt, cond_false]
    have ha := hi.2
    rw [List.take_length] at ha
    unfold nameB at h
    rw [ha] at h
    revert h
    cases decide ((s.length : Int) ≥ 1) <;> exact id

/-! impl.ValidDesk$1 -/
noncomputable def c_impl_ValidDesk_1 : Ctx := mkC Try.prog tyT [(74, s_impl_ValidShape)] [] [] 6 (fun _ => none) 0
theorem w_impl_ValidDesk_1 (s : ShapeD) (K : V → Heap → Prop) : wpFn c_impl_ValidDesk_1 Try.f73 (encAs [.agg tS] (s, ())) [] K =
  K (.bool (!validS s)) [] := by kernel_rfl
noncomputable def s_impl_ValidDesk_1 : Sm := semT [.agg tS] fun x => match x with | (s, _) => .bool (!validS s)
theorem ok_impl_ValidDesk_1 : FnOk Try.prog 73 s_impl_ValidDesk_1 := fnOk_typed (fnOk_runC (C := c_impl_ValidDesk_1) rfl mixed (.cons ok_impl_ValidShape .nil) .nil .nil Try.func73 (by kernel_rfl)) fun (x : ((ShapeD) × Unit)) wf K h => by
  obtain ⟨s, ⟨⟩⟩ := x
  replace h : K (.bool (!validS s)) [] := h
  rw [w_impl_ValidDesk_1 s K]
  exact h

/-! slices.IndexFunc[[]impl.Shape,impl.Shape] -/
noncomputable def a_slices_IndexFunc__implShape_vdesk : Nat → Option Ann := fun n => bif Nat.beq n 2 then some ⟨[0,1,7,8],0⟩ else none
noncomputable def c_slices_IndexFunc__implShape_vdesk : Ctx := mkC Try.prog tyT [(73, s_impl_ValidDesk_1)] [] [] 19 a_slices_IndexFunc__implShape_vdesk 0
noncomputable def fr_slices_IndexFunc__implShape_vdesk_2 (xs : List (ShapeD)) (n i : Int) : Fr := [(0, .vec (tS) xs), (1, .fn 73 []), (7, .int .i64 n), (8, .int .i64 i)]
theorem r_slices_IndexFunc__implShape_vdesk_2 (xs : List (ShapeD)) (n i : Int) (Kn : Fr → Heap → Prop) (K : V → Heap → Prop) : round c_slices_IndexFunc__implShape_vdesk ⟨[0,1,7,8],0⟩ (lb c_slices_IndexFunc__implShape_vdesk 2 Try.f113) (fr_slices_IndexFunc__implShape_vdesk_2 xs n i) [] Kn (lk c_slices_IndexFunc__implShape_vdesk 2 Try.f113 [] K) =
  cond (decide (i < n))
    (cond (decide (0 ≤ i))
      ((match xs[Int.toNat i]? with
        | some y0 => cond (!validS y0)
          (K (.int .i64 (i)) [])
          (Kn [(0, (.vec (.slice (.pair (.int .i64) (.pair (.int .i64) (.pair (.int .i64) (.slice (.float .f32)))))) (xs))), (1, (.fn 73 [])), (7, (.int .i64 (n))), (8, (.int .i64 (IntKind.wrap IntKind.i64 (i + 1))))] [])
        | none => False))
      (False))
    (K (.int .i64 (-1)) []) := by kernel_rfl
theorem w_slices_IndexFunc__implShape_vdesk (xs : List (ShapeD)) (K : V → Heap → Prop) : wpFn c_slices_IndexFunc__implShape_vdesk Try.f113 (encAs [.cell (.slice (tS)), .fn 73] (xs, (), ())) [] K =
  LoopE c_slices_IndexFunc__implShape_vdesk ⟨[0, 1, 7, 8], 0⟩ (lb c_slices_IndexFunc__implShape_vdesk 2 Try.f113) [(0, (.vec (.slice (.pair (.int .i64) (.pair (.int .i64) (.pair (.int .i64) (.slice (.float .f32)))))) (xs))), (1, (.fn 73 [])), (7, (.int .i64 ((↑(List.length xs) : Int)))), (8, (.int .i64 0))] [] (lk c_slices_IndexFunc__implShape_vdesk 2 Try.f113 [] K) := by kernel_rfl
noncomputable def s_slices_IndexFunc__implShape_vdesk : Sm := semT [.cell (.slice (tS)), .fn 73] fun x => match x with | (xs, _, _) => .int .i64 (idxF (fun x => !validS x) xs)
theorem ok_slices_IndexFunc__implShape_vdesk : FnOk Try.prog 113 s_slices_IndexFunc__implShape_vdesk := fnOk_typed (fnOk_runC (C := c_slices_IndexFunc__implShape_vdesk) rfl mixed (.cons ok_impl_ValidDesk_1 .nil) .nil .nil Try.func113 (by kernel_rfl)) fun (x : ((List (ShapeD)) × Unit × Unit)) wf K h => by
  obtain ⟨xs, ⟨⟩, ⟨⟩⟩ := x
  replace h : K (.int .i64 (idxF (fun x => !validS x) xs)) [] := h
  rw [w_slices_IndexFunc__implShape_vdesk xs K]
  obtain ⟨⟨wl, _⟩, _⟩ := wf
  have wl : xs.length ≤ 9223372036854775807 := wl
  refine loop_run (σ := Nat) (fun i => fr_slices_IndexFunc__implShape_vdesk_2 xs xs.length i) (fun _ => []) (fun i => i ≤ xs.length ∧ (xs.take i).any (fun x => !validS x) = false) (fun i => xs.length - i) ?_ 0 ⟨Nat.zero_le _, rfl⟩
  intro i hi Kn hk
  rw [r_slices_IndexFunc__implShape_vdesk_2 xs xs.length i Kn K]
  by_cases hlt : i < xs.length
  · simp only [d_lt hlt, d_0, cond_true, Int.toNat_natCast, get_lt hlt]
    cases hp : (fun x => !validS x) (xs[i]'hlt) with
    | true =>
      rw [idxF_hit hlt hi.2 hp] at h
      simp only at hp
      simp only [hp, cond_true]
      exact h
    | false =>
      have hn := any_snoc (f := (fun x => !validS x)) hlt hi.2 hp
      simp only at hp
      simp only [hp, cond_false]
      rw [i64_of (by omega) (by omega)]
      exact hk (i + 1) ⟨hlt, hn⟩ (by omega)
  · simp only [d_nlt hlt, cond_false]
    have : i = xs.length := by omega
    subst this
    have ha := hi.2
    rw [List.take_length] at ha
    rw [idxF_none ha] at h
    exact h

/-! slices.ContainsFunc[[]impl.Shape,impl.Shape] -/
noncomputable def c_slices_ContainsFunc__implShape_vdesk : Ctx := mkC Try.prog tyT [(113, s_slices_IndexFunc__implShape_vdesk)] [] [] 9 (fun _ => none) 0
theorem w_slices_ContainsFunc__implShape_vdesk (xs : List (ShapeD)) (K : V → Heap → Prop) : wpFn c_slices_ContainsFunc__implShape_vdesk Try.f72 (encAs [.cell (.slice (tS)), .fn 73] (xs, (), ())) [] K =
  K (.bool (decide (idxF (fun x => !validS x) xs ≥ 0))) [] := by kernel_rfl
noncomputable def s_slices_ContainsFunc__implShape_vdesk : Sm := semT [.cell (.slice (tS)), .fn 73] fun x => match x with | (xs, _, _) => .bool (xs.any (fun x => !validS x))
theorem ok_slices_ContainsFunc__implShape_vdesk : FnOk Try.prog 72 s_slices_ContainsFunc__implShape_vdesk := fnOk_typed (fnOk_runC (C := c_slices_ContainsFunc__implShape_vdesk) rfl mixed (.cons ok_slices_IndexFunc__implShape_vdesk .nil) .nil .nil Try.func72 (by kernel_rfl)) fun (x : ((List (ShapeD)) × Unit × Unit)) wf K h => by
  obtain ⟨xs, ⟨⟩, ⟨⟩⟩ := x
  replace h : K (.bool (xs.any (fun x => !validS x))) [] := h
  rw [w_slices_ContainsFunc__implShape_vdesk xs K]
  rw [idxF_ge]
  exact h


/-- Does a name stand behind the one before it? -/
def riseAt (ns : List Str) (i : Nat) : Bool := i == 0 || Op.bytesLess ((ns[i - 1]?).getD []) ((ns[i]?).getD [])
def nAt (ns : List Str) (i : Nat) : Bool := nameB ((ns[i]?).getD []) && riseAt ns i
def namesB (ns : List Str) : Bool := (List.range ns.length).all (nAt ns)
theorem names_no {ns : List Str} {i : Nat} (hi : i < ns.length) (h : nAt ns i = false) : namesB ns = false :=
  List.all_eq_false.2 ⟨i, by simpa using hi, by simp [h]⟩
theorem names_yes {ns : List Str} (h : ∀ j, j < ns.length → nAt ns j = true) : namesB ns = true :=
  List.all_eq_true.2 fun j hj => h j (by simpa using hj)
--B validD List Str → List ShapeD → Bool
def validD (ns : List Str) (ss : List ShapeD) : Bool := namesB ns && (decide (ns.length ≤ 6) && (decide (ss.length = ns.length) && !ss.any (fun s => !validS s)))

/-! impl.ValidDesk -/
noncomputable def a_impl_ValidDesk : Nat → Option Ann := fun n => bif Nat.beq n 2 then some ⟨[1,6,7,8],1⟩ else none
noncomputable def c_impl_ValidDesk : Ctx := mkC Try.prog tyT [(71, s_impl_IsName), (72, s_slices_ContainsFunc__implShape_vdesk)] [] [] 50 a_impl_ValidDesk 0
noncomputable def fr_impl_ValidDesk_2 (ns : List Str) (ss : List ShapeD) (n i : Int) : Fr := [(1, .ptr 0 0), (6, .vec .str ns), (7, .int .i64 n), (8, .int .i64 i)]
noncomputable def hp_impl_ValidDesk_2 (ns : List Str) (ss : List ShapeD) (n i : Int) : Heap := [.box [.vec .str ns, .vec tS ss]]
theorem r_impl_ValidDesk_2 (ns : List Str) (ss : List ShapeD) (n i : Int) (Kn : Fr → Heap → Prop) (K : V → Heap → Prop) : round c_impl_ValidDesk ⟨[1,6,7,8],1⟩ (lb c_impl_ValidDesk 2 Try.f23) (fr_impl_ValidDesk_2 ns ss n i) (hp_impl_ValidDesk_2 ns ss n i) Kn (lk c_impl_ValidDesk 2 Try.f23 [] K) =
  cond (decide (i < n))
    (cond (decide (0 ≤ i))
      ((match ns[Int.toNat i]? with
        | some y0 => cond (!nameB y0)
          (K (.bool false) [])
          (cond (decide (i > 0))
            (cond (decide (0 ≤ IntKind.wrap IntKind.i64 (i - 1)))
              ((match ns[Int.toNat (IntKind.wrap IntKind.i64 (i - 1))]? with
                | some y1 => cond (!Op.bytesLess y1 y0)
                  (K (.bool false) [])
                  (Kn [(1, (.ptr 0 0)), (6, (.vec .str (ns))), (7, (.int .i64 (n))), (8, (.int .i64 (IntKind.wrap IntKind.i64 (i + 1))))] [(.box [(.vec .str (ns)), (.vec (.slice (.pair (.int .i64) (.pair (.int .i64) (.pair (.int .i64) (.slice (.float .f32)))))) (ss))])])
                | none => False))
              (False))
            (Kn [(1, (.ptr 0 0)), (6, (.vec .str (ns))), (7, (.int .i64 (n))), (8, (.int .i64 (IntKind.wrap IntKind.i64 (i + 1))))] [(.box [(.vec .str (ns)), (.vec (.slice (.pair (.int .i64) (.pair (.int .i64) (.pair (.int .i64) (.slice (.float .f32)))))) (ss))])]))
        | none => False))
      (False))
    (cond (decide ((↑(List.length ns) : Int) ≤ 6))
      (cond ((↑(List.length ss) : Int) == (↑(List.length ns) : Int))
        (K (.bool (!List.any ss fun x => !validS x)) [])
        (K (.bool false) []))
      (K (.bool false) [])) := by kernel_rfl
theorem w_impl_ValidDesk (ns : List Str) (ss : List ShapeD) (K : V → Heap → Prop) : wpFn c_impl_ValidDesk Try.f23 (encAs [.agg tD] ((ns, ss), ())) [] K =
  LoopE c_impl_ValidDesk ⟨[1, 6, 7, 8], 1⟩ (lb c_impl_ValidDesk 2 Try.f23) [(1, (.ptr 0 0)), (6, (.vec .str (ns))), (7, (.int .i64 ((↑(List.length ns) : Int)))), (8, (.int .i64 0))] [(.box [(.vec .str (ns)), (.vec (.slice (.pair (.int .i64) (.pair (.int .i64) (.pair (.int .i64) (.slice (.float .f32)))))) (ss))])] (lk c_impl_ValidDesk 2 Try.f23 [] K) := by kernel_rfl
noncomputable def s_impl_ValidDesk : Sm := semT [.agg tD] fun x => match x with | ((ns, ss), _) => .bool (validD ns ss)
theorem ok_impl_ValidDesk : FnOk Try.prog 23 s_impl_ValidDesk := fnOk_typed (fnOk_runC (C := c_impl_ValidDesk) rfl mixed (.cons ok_impl_IsName (.cons ok_slices_ContainsFunc__implShape_vdesk .nil)) .nil .nil Try.func23 (by kernel_rfl)) fun (x : (((List Str) × (List ShapeD)) × Unit)) wf K h => by
  obtain ⟨⟨ns, ss⟩, ⟨⟩⟩ := x
  replace h : K (.bool (validD ns ss)) [] := h
  rw [w_impl_ValidDesk ns ss K]
  obtain ⟨⟨⟨wl, _⟩, wl2, _⟩, _⟩ := wf
  have wl : ns.length ≤ 9223372036854775807 := wl
  refine loop_run (σ := Nat) (fun i => fr_impl_ValidDesk_2 ns ss ns.length i) (fun i => hp_impl_ValidDesk_2 ns ss ns.length i) (fun i => i ≤ ns.length ∧ ∀ j, j < i → nAt ns j = true) (fun i => ns.length - i) ?_ 0 ⟨Nat.zero_le _, fun j hj => by omega⟩
  intro i hi Kn hk
  rw [r_impl_ValidDesk_2 ns ss ns.length i Kn K]
  by_cases hlt : i < ns.length
  · simp only [d_lt hlt, d_0, cond_true, Int.toNat_natCast, get_lt hlt]
    have no : nAt ns i = false → K (.bool false) [] := fun e => by
      unfold validD at h
      rw [names_no hlt e] at h
      exact h
    have yes : nAt ns i = true → Kn (fr_impl_ValidDesk_2 ns ss ns.length ((i : Int) + 1)) (hp_impl_ValidDesk_2 ns ss ns.length i) := fun e =>
      hk (i + 1) ⟨hlt, fun j hj => (Nat.lt_or_ge j i).elim (hi.2 j) fun h' => (show j = i by omega) ▸ e⟩ (by omega)
    rw [i64_of (n := (i : Int) + 1) (by omega) (by omega)]
    have hu : nAt ns i = (nameB (ns[i]'hlt) && riseAt ns i) := by unfold nAt; rw [get_lt hlt]; rfl
    rw [hu] at no yes
    cases e1 : nameB (ns[i]'hlt) with
    | false => exact no (by rw [e1]; rfl)
    | true =>
      rw [e1, Bool.true_and] at no yes
      simp only [Bool.not_true, cond_false]
      by_cases h0 : i = 0
      · subst h0
        exact yes rfl
      · have hp : i - 1 < ns.length := by omega
        simp only [d_t (show (i : Int) > 0 by omega), cond_true]
        rw [i64_of (n := (i : Int) - 1) (by omega) (by omega), show ((i : Int) - 1).toNat = i - 1 by omega, get_lt hp]
        simp only [d_t (show (0 : Int) ≤ (i : Int) - 1 by omega), cond_true]
        have hr : riseAt ns i = Op.bytesLess (ns[i - 1]'hp) (ns[i]'hlt) := by
          unfold riseAt
          rw [beq_eq_false_iff_ne.2 h0, get_lt hp, get_lt hlt]
          rfl
        rw [hr] at no yes
        cases e2 : Op.bytesLess (ns[i - 1]'hp) (ns[i]'hlt) with
        | false => exact no e2
        | true => exact yes e2
  · have : i = ns.length := by omega
    subst this
    simp only [d_nlt hlt, cond_false]
    unfold validD at h
    rw [names_yes hi.2] at h
    rw [beq_cast]
    have e1 : decide ((ns.length : Int) ≤ 6) = decide (ns.length ≤ 6) := decide_eq_decide.2 (by omega)
    have e2 : (ss.length == ns.length) = decide (ss.length = ns.length) := by by_cases e : ss.length = ns.length <;> simp [e]
    rw [e1, e2]
    revert h
    cases decide (ns.length ≤ 6) <;> cases decide (ss.length = ns.length) <;> exact id

/-! spec.l11Is -/
noncomputable def a_spec_l11Is : Nat → Option Ann := fun n => bif Nat.beq n 4 then some ⟨[0,27,28],0⟩ else none
noncomputable def c_spec_l11Is : Ctx := mkC Try.prog tyT [(112, s_spec_IsName), (78, s_spec_l02Is)] [] [] 73 a_spec_l11Is 0
noncomputable def fr_spec_l11Is_4 (ns : List Str) (ss : List ShapeD) (n i : Int) : Fr := [(0, .ref [.vec .str ns, .vec tS ss] 0), (27, .int .i64 n), (28, .int .i64 i)]
theorem r_spec_l11Is_4 (ns : List Str) (ss : List ShapeD) (n i : Int) (Kn : Fr → Heap → Prop) (K : V → Heap → Prop) : round c_spec_l11Is ⟨[0,27,28],0⟩ (lb c_spec_l11Is 4 Try.f68) (fr_spec_l11Is_4 ns ss n i) [] Kn (lk c_spec_l11Is 4 Try.f68 [] K) =
  cond (decide (i < n))
    (cond (decide (0 ≤ i))
      ((match ns[Int.toNat i]? with
        | some y0 => cond (!nameB y0)
          (K (.bool false) [])
          (cond (decide (i > 0))
            (cond (decide (0 ≤ IntKind.wrap IntKind.i64 (i - 1)))
              ((match ns[Int.toNat (IntKind.wrap IntKind.i64 (i - 1))]? with
                | some y1 => cond (decide (0 ≤ i))
                  ((match ns[Int.toNat i]? with
                    | some y2 => cond (!Op.bytesLess y1 y2)
                      (K (.bool false) [])
                      (cond (decide (0 ≤ i))
                        ((match ss[Int.toNat i]? with
                          | some y3 => cond (!validS y3)
                            (K (.bool false) [])
                            (Kn [(0, (.ref [(.vec .str (ns)), (.vec (.slice (.pair (.int .i64) (.pair (.int .i64) (.pair (.int .i64) (.slice (.float .f32)))))) (ss))] 0)), (27, (.int .i64 (n))), (28, (.int .i64 (IntKind.wrap IntKind.i64 (i + 1))))] [])
                          | none => False))
                        (False))
                    | none => False))
                  (False)
                | none => False))
              (False))
            (cond (decide (0 ≤ i))
              ((match ss[Int.toNat i]? with
                | some y4 => cond (!validS y4)
                  (K (.bool false) [])
                  (Kn [(0, (.ref [(.vec .str (ns)), (.vec (.slice (.pair (.int .i64) (.pair (.int .i64) (.pair (.int .i64) (.slice (.float .f32)))))) (ss))] 0)), (27, (.int .i64 (n))), (28, (.int .i64 (IntKind.wrap IntKind.i64 (i + 1))))] [])
                | none => False))
              (False)))
        | none => False))
      (False))
    (K (.bool true) []) := by kernel_rfl
theorem w_spec_l11Is (ns : List Str) (ss : List ShapeD) (K : V → Heap → Prop) : wpFn c_spec_l11Is Try.f68 (encAs [.ref tD] ((ns, ss), ())) [] K =
  cond (decide ((↑(List.length ns) : Int) > 6))
    (K (.bool false) [])
    (cond ((↑(List.length ss) : Int) != (↑(List.length ns) : Int))
      (K (.bool false) [])
      (LoopE c_spec_l11Is ⟨[0, 27, 28], 0⟩ (lb c_spec_l11Is 4 Try.f68) [(0, (.ref [(.vec .str (ns)), (.vec (.slice (.pair (.int .i64) (.pair (.int .i64) (.pair (.int .i64) (.slice (.float .f32)))))) (ss))] 0)), (27, (.int .i64 ((↑(List.length ns) : Int)))), (28, (.int .i64 0))] [] (lk c_spec_l11Is 4 Try.f68 [] K))) := by kernel_rfl
noncomputable def s_spec_l11Is : Sm := semT [.ref tD] fun x => match x with | ((ns, ss), _) => .bool (validD ns ss)
theorem ok_spec_l11Is : FnOk Try.prog 68 s_spec_l11Is := fnOk_typed (fnOk_runC (C := c_spec_l11Is) rfl mixed (.cons ok_spec_IsName (.cons ok_spec_l02Is .nil)) .nil .nil Try.func68 (by kernel_rfl)) fun (x : (((List Str) × (List ShapeD)) × Unit)) wf K h => by
  obtain ⟨⟨ns, ss⟩, ⟨⟩⟩ := x
  replace h : K (.bool (validD ns ss)) [] := h
  rw [w_spec_l11Is ns ss K]
  obtain ⟨⟨⟨wl, _⟩, wl2, _⟩, _⟩ := wf
  have wl : ns.length ≤ 9223372036854775807 := wl
  unfold validD at h
  by_cases h6 : ns.length ≤ 6
  · have h6' : ¬ (ns.length : Int) > 6 := by omega
    simp only [h6', decide_false, cond_false]
    rw [bne_cast]
    by_cases hl : ss.length = ns.length
    · rw [show (ss.length != ns.length) = false by rw [hl]; exact bne_self_eq_false _]
      simp only [cond_false]
      rw [d_t h6, d_t hl, Bool.true_and, Bool.true_and] at h
      refine loop_run (σ := Nat) (fun i => fr_spec_l11Is_4 ns ss ns.length i) (fun i => []) (fun i => i ≤ ns.length ∧ (∀ j, j < i → nAt ns j = true) ∧ (ss.take i).any (fun s => !validS s) = false) (fun i => ns.length - i) ?_ 0 ⟨Nat.zero_le _, fun j hj => by omega, rfl⟩
      intro i hi Kn hk
      rw [r_spec_l11Is_4 ns ss ns.length i Kn K]
      by_cases hlt : i < ns.length
      · have hls : i < ss.length := by omega
        simp only [d_lt hlt, d_0, cond_true, Int.toNat_natCast, get_lt hlt, get_lt hls]
        have no : nAt ns i = false → K (.bool false) [] := fun e => by
          rw [names_no hlt e] at h
          exact h
        have no2 : validS (ss[i]'hls) = false → K (.bool false) [] := fun e => by
          rw [List.any_eq_true.2 ⟨_, List.getElem_mem hls, by rw [e]; rfl⟩, Bool.not_true, Bool.and_false] at h
          exact h
        have yes : nAt ns i = true → validS (ss[i]'hls) = true → Kn (fr_spec_l11Is_4 ns ss ns.length ((i : Int) + 1)) [] := fun e e' =>
          hk (i + 1) ⟨hlt, fun j hj => (Nat.lt_or_ge j i).elim (hi.2.1 j) fun h' => (show j = i by omega) ▸ e, any_snoc (f := fun s => !validS s) hls hi.2.2 (by simp only [e']; rfl)⟩ (by omega)
        rw [i64_of (n := (i : Int) + 1) (by omega) (by omega)]
        have hu : nAt ns i = (nameB (ns[i]'hlt) && riseAt ns i) := by unfold nAt; rw [get_lt hlt]; rfl
        rw [hu] at no yes
        have last : riseAt ns i = true → nameB (ns[i]'hlt) = true → cond (!validS (ss[i]'hls)) (K (.bool false) []) (Kn (fr_spec_l11Is_4 ns ss ns.length ((i : Int) + 1)) []) := fun e e' => by
          cases e3 : validS (ss[i]'hls) with
          | false => exact no2 e3
          | true => exact yes (by rw [e, e']; rfl) e3
        cases e1 : nameB (ns[i]'hlt) with
        | false => exact no (by rw [e1]; rfl)
        | true =>
          rw [e1, Bool.true_and] at no
          simp only [Bool.not_true, cond_false]
          by_cases h0 : i = 0
          · subst h0
            exact last rfl e1
          · have hp : i - 1 < ns.length := by omega
            simp only [d_t (show (i : Int) > 0 by omega), cond_true]
            rw [i64_of (n := (i : Int) - 1) (by omega) (by omega), show ((i : Int) - 1).toNat = i - 1 by omega, get_lt hp]
            simp only [d_t (show (0 : Int) ≤ (i : Int) - 1 by omega), cond_true]
            have hr : riseAt ns i = Op.bytesLess (ns[i - 1]'hp) (ns[i]'hlt) := by
              unfold riseAt
              rw [beq_eq_false_iff_ne.2 h0, get_lt hp, get_lt hlt]
              rfl
            rw [hr] at no last
            cases e2 : Op.bytesLess (ns[i - 1]'hp) (ns[i]'hlt) with
            | false => exact no e2
            | true => exact last e2 e1
      · have : i = ns.length := by omega
        subst this
        simp only [d_nlt hlt, cond_false]
        have h2 := hi.2.2
        rw [← hl, List.take_length] at h2
        rw [names_yes hi.2.1, h2] at h
        exact h
    · rw [show (ss.length != ns.length) = true by simp [hl]]
      rw [d_f hl, Bool.false_and, Bool.and_false, Bool.and_false] at h
      exact h
  · have h6' : (ns.length : Int) > 6 := by omega
    simp only [h6', decide_true, cond_true]
    rw [d_f h6, Bool.false_and, Bool.and_false] at h
    exact h

/-! spec.ValidDesk -/
noncomputable def c_spec_ValidDesk : Ctx := mkC Try.prog tyT [(68, s_spec_l11Is)] [] [] 4 (fun _ => none) 0
theorem w_spec_ValidDesk (ns : List Str) (ss : List ShapeD) (K : V → Heap → Prop) : wpFn c_spec_ValidDesk Try.f21 (encAs [.agg tD] ((ns, ss), ())) [] K =
  K (.bool (validD ns ss)) [] := by kernel_rfl
noncomputable def s_spec_ValidDesk : Sm := semT [.agg tD] fun x => match x with | ((ns, ss), _) => .bool (validD ns ss)
theorem ok_spec_ValidDesk : FnOk Try.prog 21 s_spec_ValidDesk := fnOk_typed (fnOk_runC (C := c_spec_ValidDesk) rfl mixed (.cons ok_spec_l11Is .nil) .nil .nil Try.func21 (by kernel_rfl)) fun (x : (((List Str) × (List ShapeD)) × Unit)) wf K h => by
  obtain ⟨⟨ns, ss⟩, ⟨⟩⟩ := x
  replace h : K (.bool (validD ns ss)) [] := h
  rw [w_spec_ValidDesk ns ss K]
  exact h

def wDesk (ns : List Str) (ss : List ShapeD) : Nat := wList List.length ns + wList wShape ss

/-! laws.szDesk -/
noncomputable def c_laws_szDesk : Ctx := mkC Try.prog tyT [(66, s_laws_szStringS), (67, s_laws_szShapeS)] [] [] 18 (fun _ => none) 0
theorem w_laws_szDesk (ns : List Str) (ss : List ShapeD) (n : Int) (K : V → Heap → Prop) : wpFn c_laws_szDesk Try.f20 (encAs [.agg tD, .cell tI] ((ns, ss), n, ())) [] K =
  cond (decide (n ≤ 1048576) && decide (0 ≤ n))
    (cond (decide (szV n (wList List.length ns) < 0))
      (K (.int .i64 (-1)) [])
      (cond (decide (szV n (wList List.length ns) ≤ 1048576) && decide (0 ≤ szV n (wList List.length ns)))
        (cond (decide (szV (szV n (wList List.length ns)) (wList wShape ss) < 0))
          (K (.int .i64 (-1)) [])
          (K (.int .i64 (szV (szV n (wList List.length ns)) (wList wShape ss))) []))
        (False)))
    (False) := by kernel_rfl
noncomputable def s_laws_szDesk : Sm := semG [.agg tD, .cell tI] (fun x => match x with | ((ns, ss), n, _) => decide (n ≤ 1048576) && decide (0 ≤ n)) fun x => match x with | ((ns, ss), n, _) => .int .i64 (szV n (wDesk ns ss))
theorem ok_laws_szDesk : FnOk Try.prog 20 s_laws_szDesk := fnOk_typedG (fnOk_runC (C := c_laws_szDesk) rfl mixed (.cons ok_laws_szStringS (.cons ok_laws_szShapeS .nil)) .nil .nil Try.func20 (by kernel_rfl)) fun (x : (((List Str) × (List ShapeD)) × (Int) × Unit)) wf hg K h => by
  obtain ⟨⟨ns, ss⟩, n, ⟨⟩⟩ := x
  replace hg : (decide (n ≤ 1048576) && decide (0 ≤ n)) = true := hg
  replace h : K (.int .i64 (szV n (wDesk ns ss))) [] := h
  rw [w_laws_szDesk ns ss n K]
  rw [hg]
  simp only [Bool.and_eq_true, decide_eq_true_eq] at hg
  simp only [cond_true]
  have e : wDesk ns ss = wList List.length ns + wList wShape ss := rfl
  by_cases h1 : n - (wList List.length ns : Int) < 0
  · rw [szV_no (w := wDesk ns ss) (by omega)] at h
    simp only [szV_no h1]
    exact h
  · have e1 : szV n (wList List.length ns) = n - wList List.length ns := szV_ok (by omega)
    simp only [e1, d_f h1, d_t (show n - (wList List.length ns : Int) ≤ 1048576 by omega), d_t (show 0 ≤ n - (wList List.length ns : Int) by omega), Bool.and_self, cond_true, cond_false]
    by_cases h2 : n - (wList List.length ns : Int) - (wList wShape ss : Int) < 0
    · rw [szV_no (w := wDesk ns ss) (by omega)] at h
      simp only [szV_no h2]
      exact h
    · rw [szV_ok (w := wDesk ns ss) (by omega)] at h
      simp only [szV_ok (n := n - (wList List.length ns : Int)) (w := wList wShape ss) (by omega), d_f h2, cond_false]
      rw [show n - ((wDesk ns ss : Nat) : Int) = n - (wList List.length ns : Int) - (wList wShape ss : Int) by omega] at h
      exact h

/-! laws.toDesk -/
noncomputable def c_laws_toDesk : Ctx := mkC Try.prog tyT [(69, s_laws_toStringS), (70, s_laws_toShapeS)] [] [] 13 (fun _ => none) 0
theorem w_laws_toDesk (ns : List Str) (ss : List ShapeD) (K : V → Heap → Prop) : wpFn c_laws_toDesk Try.f22 (encAs [.agg tD] ((ns, ss), ())) [] K =
  cond (decide (List.length ns ≤ 1048576))
    (cond (decide (List.length ss ≤ 1048576) && List.all ss fitS)
      (K (.agg [(.vec .str (ns)), (.vec (.slice (.pair (.int .i64) (.pair (.int .i64) (.pair (.int .i64) (.slice (.float .f32)))))) (ss))]) [])
      (False))
    (False) := by kernel_rfl
noncomputable def s_laws_toDesk : Sm := semG [.agg tD] (fun x => match x with | ((ns, ss), _) => decide (ns.length ≤ 1048576) && (decide (ss.length ≤ 1048576) && ss.all fitS)) fun x => match x with | ((ns, ss), _) => .agg [.vec .str ns, .vec tS ss]
theorem ok_laws_toDesk : FnOk Try.prog 22 s_laws_toDesk := fnOk_typedG (fnOk_runC (C := c_laws_toDesk) rfl mixed (.cons ok_laws_toStringS (.cons ok_laws_toShapeS .nil)) .nil .nil Try.func22 (by kernel_rfl)) fun (x : (((List Str) × (List ShapeD)) × Unit)) wf hg K h => by
  obtain ⟨⟨ns, ss⟩, ⟨⟩⟩ := x
  replace hg : (decide (ns.length ≤ 1048576) && (decide (ss.length ≤ 1048576) && ss.all fitS)) = true := hg
  replace h : K (.agg [.vec .str ns, .vec tS ss]) [] := h
  rw [w_laws_toDesk ns ss K]
  revert hg
  cases decide (ns.length ≤ 1048576) with
  | false => exact fun e => by cases e
  | true =>
    intro hg
    rw [show (decide (ss.length ≤ 1048576) && ss.all fitS) = true from hg]
    exact h

/-! laws.eqDesk -/
noncomputable def c_laws_eqDesk : Ctx := mkC Try.prog tyT [(75, s_laws_eqStringS), (76, s_laws_eqShapeS)] [] [] 17 (fun _ => none) 0
theorem w_laws_eqDesk (ns : List Str) (ss : List ShapeD) (ns' : List Str) (ss' : List ShapeD) (K : V → Heap → Prop) : wpFn c_laws_eqDesk Try.f24 (encAs [.agg tD, .agg tD] ((ns, ss), (ns', ss'), ())) [] K =
  cond (ns == ns')
    (cond (ss == ss')
      (K (.bool true) [])
      (False))
    (False) := by kernel_rfl
noncomputable def s_laws_eqDesk : Sm := semG [.agg tD, .agg tD] (fun x => match x with | ((ns, ss), (ns', ss'), _) => ns == ns' && ss == ss') fun x => match x with | ((ns, ss), (ns', ss'), _) => .bool true
theorem ok_laws_eqDesk : FnOk Try.prog 24 s_laws_eqDesk := fnOk_typedG (fnOk_runC (C := c_laws_eqDesk) rfl mixed (.cons ok_laws_eqStringS (.cons ok_laws_eqShapeS .nil)) .nil .nil Try.func24 (by kernel_rfl)) fun (x : (((List Str) × (List ShapeD)) × ((List Str) × (List ShapeD)) × Unit)) wf hg K h => by
  obtain ⟨⟨ns, ss⟩, ⟨ns', ss'⟩, ⟨⟩⟩ := x
  replace hg : (ns == ns' && ss == ss') = true := hg
  replace h : K (.bool true) [] := h
  rw [w_laws_eqDesk ns ss ns' ss' K]
  simp only [Bool.and_eq_true] at hg
  rw [hg.1, hg.2]
  exact h

/-! laws.FnExactValidDesk -/
noncomputable def c_laws_FnExactValidDesk : Ctx := mkC Try.prog tyT [(20, s_laws_szDesk), (22, s_laws_toDesk), (21, s_spec_ValidDesk), (23, s_impl_ValidDesk), (24, s_laws_eqDesk)] [] [] 27 (fun _ => none) 0
theorem w_laws_FnExactValidDesk (ns : List Str) (ss : List ShapeD) (K : V → Heap → Prop) : wpFn c_laws_FnExactValidDesk Try.f5 (encAs [.agg tD] ((ns, ss), ())) [] K =
  cond (decide (szV 1048576 (wDesk ns ss) < 0))
    (K (.bool true) [])
    (cond (decide (List.length ns ≤ 1048576) && (decide (List.length ss ≤ 1048576) && List.all ss fitS))
      (cond (decide (List.length ns ≤ 1048576) && (decide (List.length ss ≤ 1048576) && List.all ss fitS))
        (cond (validD ns ss != validD ns ss)
          (K (.bool false) [])
          (cond (decide (List.length ns ≤ 1048576) && (decide (List.length ss ≤ 1048576) && List.all ss fitS))
            (cond (ns == ns && ss == ss)
              (K (.bool true) [])
              (False))
            (False)))
        (False))
      (False)) := by kernel_rfl
noncomputable def s_laws_FnExactValidDesk : Sm := semT [.agg tD] fun x => match x with | ((ns, ss), _) => .bool true
theorem ok_laws_FnExactValidDesk : FnOk Try.prog 5 s_laws_FnExactValidDesk := fnOk_typed (fnOk_runC (C := c_laws_FnExactValidDesk) rfl mixed (.cons ok_laws_szDesk (.cons ok_laws_toDesk (.cons ok_spec_ValidDesk (.cons ok_impl_ValidDesk (.cons ok_laws_eqDesk .nil))))) .nil .nil Try.func5 (by kernel_rfl)) fun (x : (((List Str) × (List ShapeD)) × Unit)) wf K h => by
  obtain ⟨⟨ns, ss⟩, ⟨⟩⟩ := x
  replace h : K (.bool true) [] := h
  rw [w_laws_FnExactValidDesk ns ss K]
  by_cases h1 : (1048576 : Int) - (wDesk ns ss : Int) < 0
  · simp only [szV_no h1]
    exact h
  · have e1 : szV 1048576 (wDesk ns ss) = 1048576 - wDesk ns ss := szV_ok (by omega)
    have hw : wDesk ns ss = wList List.length ns + wList wShape ss := rfl
    have g1 := wList_ge List.length ns
    have g2 := wList_ge wShape ss
    have hfit : ss.all fitS = true := List.all_eq_true.2 fun s hs => fitS_of (by
      have := mem_le wShape hs
      have : (ss.map wShape).sum ≤ wList wShape ss := by unfold wList; omega
      omega)
    simp only [e1, d_f h1, cond_false, d_t (show ns.length ≤ 1048576 by omega), d_t (show ss.length ≤ 1048576 by omega), hfit, Bool.and_self, cond_true, bne_self_eq_false, beq_self_eq_true]
    exact h

end Go.Proofs.Ytobdbgdgingjjaa
