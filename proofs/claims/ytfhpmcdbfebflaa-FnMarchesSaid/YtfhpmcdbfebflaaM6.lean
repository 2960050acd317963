/- Merged texts: B10 Mar. -/
import Derived.Test.YtfhpmcdbfebflaaM5
/- What the laws of the first kind draw: rays, marches, numbers by index. -/
set_option linter.unusedVariables false
set_option linter.unusedSimpArgs false
set_option maxRecDepth 100000
namespace Go.Proofs.Ytfhpmcdbfebflaa
open Go.Ev Go.Ev.Fl

/-! laws.b10Long -/
noncomputable def c_laws_b10Long : Ctx := mkC Try.prog tyT [] [] [] 13 (fun _ => none) 0
theorem w_laws_b10Long (xs ys : List Int) (K : V → Heap → Prop) : wpFn c_laws_b10Long Try.f12 (encAs [.cell tB, .cell tB] (xs, ys, ())) [] K =
  cond (decide ((↑(List.length xs) : Int) > 1048576))
    (K (.bool true) [])
    (K (.bool (decide ((↑(List.length ys) : Int) > 1048576))) []) := by kernel_rfl
noncomputable def s_laws_b10Long : Sm := semT [.cell tB, .cell tB] fun x => match x with | (xs, ys, _) => .bool (decide (1048576 < xs.length) || decide (1048576 < ys.length))
theorem ok_laws_b10Long : FnOk Try.prog 12 s_laws_b10Long := fnOk_typed (fnOk_runC (C := c_laws_b10Long) rfl mixed .nil .nil .nil Try.func12 (by kernel_rfl)) fun (x : ((List Int) × (List Int) × Unit)) wf K h => by
  obtain ⟨xs, ys, ⟨⟩⟩ := x
  replace h : K (.bool (decide (1048576 < xs.length) || decide (1048576 < ys.length))) [] := h
  rw [w_laws_b10Long xs ys K]
  have e : ∀ n : Nat, decide ((n : Int) > 1048576) = decide (1048576 < n) := fun n => decide_eq_decide.2 (by omega)
  rw [e, e]
  cases h1 : decide (1048576 < xs.length) <;> rw [h1] at h <;> exact h

--B bAtV List Int → Int → Int → Int
def bAtV (xs : List Int) (i n : Int) : Int := bif decide (n ≤ 1) then 0 else bif decide (i < (xs.length : Int)) then ((xs[i.toNat]?).getD 0).tmod n else (i * 37 + 11).tmod n
/-! laws.b10At -/
noncomputable def c_laws_b10At : Ctx := mkC Try.prog tyT [] [] [] 25 (fun _ => none) 0
theorem w_laws_b10At (xs : List Int) (i n : Int) (K : V → Heap → Prop) : wpFn c_laws_b10At Try.f19 (encAs [.cell tB, .cell (.int .i64), .cell (.int .i64)] (xs, i, n, ())) [] K =
  cond (decide (n ≤ 1))
    (K (.int .i64 0) [])
    (cond (decide (i < (↑(List.length xs) : Int)))
      (cond (decide (0 ≤ i))
        ((match xs[Int.toNat i]? with
          | some y0 => cond (n == 0)
            (False)
            (K (.int .i64 (Int.tmod (IntKind.wrap IntKind.i64 y0) n)) [])
          | none => False))
        (False))
      (cond (n == 0)
        (False)
        (K (.int .i64 (Int.tmod (IntKind.wrap IntKind.i64 (IntKind.wrap IntKind.i64 (i * 37) + 11)) n)) []))) := by kernel_rfl
noncomputable def s_laws_b10At : Sm := semG [.cell tB, .cell (.int .i64), .cell (.int .i64)] (fun x => match x with | (xs, i, n, _) => decide (0 ≤ i) && decide (i ≤ 1000)) fun x => match x with | (xs, i, n, _) => .int .i64 (bAtV xs i n)
theorem ok_laws_b10At : FnOk Try.prog 19 s_laws_b10At := fnOk_typedG (fnOk_runC (C := c_laws_b10At) rfl mixed .nil .nil .nil Try.func19 (by kernel_rfl)) fun (x : ((List Int) × (Int) × (Int) × Unit)) wf hg K h => by
  obtain ⟨xs, i, n, ⟨⟩⟩ := x
  replace hg : (decide (0 ≤ i) && decide (i ≤ 1000)) = true := hg
  replace h : K (.int .i64 (bAtV xs i n)) [] := h
  rw [w_laws_b10At xs i n K]
  simp only [Bool.and_eq_true, decide_eq_true_eq] at hg
  unfold bAtV at h
  by_cases h1 : n ≤ 1
  · rw [d_t h1] at h ⊢; exact h
  · rw [d_f h1] at h ⊢
    simp only [cond_false] at h ⊢
    rw [beq_eq_false_iff_ne.2 (show n ≠ 0 by omega)]
    by_cases h2 : i < (xs.length : Int)
    · rw [d_t h2] at h ⊢
      have hl : i.toNat < xs.length := by omega
      rw [d_t hg.1, get_lt hl] at *
      have hb := bytes_of wf.1 _ (List.getElem_mem hl)
      simp only [cond_true, cond_false, Option.getD_some] at h ⊢
      rw [i64_of (by omega) (by omega)]
      exact h
    · rw [d_f h2] at h ⊢
      rw [i64_of (n := i * 37) (by omega) (by omega), i64_of (by omega) (by omega)]
      exact h

theorem bAt_range {xs : List Int} (hb : bytes xs) {i n : Int} (hi : 0 ≤ i) (hn : 1 ≤ n) : 0 ≤ bAtV xs i n ∧ bAtV xs i n < n := by
  unfold bAtV
  by_cases h1 : n ≤ 1
  · rw [d_t h1]; simp only [cond_true]; omega
  · rw [d_f h1]
    simp only [cond_false]
    have pos : ∀ x : Int, 0 ≤ x → 0 ≤ x.tmod n ∧ x.tmod n < n := fun x hx => ⟨Int.tmod_nonneg _ hx, Int.tmod_lt_of_pos _ (by omega)⟩
    cases decide (i < (xs.length : Int)) with
    | false => exact pos _ (by omega)
    | true =>
      refine pos _ ?_
      cases e : xs[i.toNat]? with
      | none => simp
      | some b => exact (hb b (List.mem_of_getElem? e)).1

def rayS (xs : List Int) : SrcD := smallS (smallS (xs, 0, 0))
--B rayV List Int → (Nat × Nat × Nat) × (Nat × Nat × Nat)
def rayV (xs : List Int) : RayD := ((smallV (xs, 0, 0), smallV (smallS (xs, 0, 0)), FloatKind.f32.nearest (-5 - pickV (rayS xs) 4)), (smallV (pickS (rayS xs) 4), 0, 1082130432))
/-! spec.B10Ray -/
noncomputable def c_spec_B10Ray : Ctx := mkC Try.prog tyT [] [] [(67, s_spec_l00From), (69, s_spec_l01DrawSmall), (70, s_spec_l00Src_pick)] 26 (fun _ => none) 0
theorem w_spec_B10Ray (xs : List Int) (K : V → Heap → Prop) : wpFn c_spec_B10Ray Try.f14 (encAs [.cell tB] (xs, ())) [] K =
  cond (inS 1000000 (xs, 0, 0))
    (cond (inS 1000000 (smallS (xs, 0, 0)))
      (cond (srcIn 6 (smallS (smallS (xs, 0, 0))))
        (cond (inS 1000000 (pickS (smallS (smallS (xs, 0, 0))) 4))
          (K (.agg [(.float .f32 (smallV (xs, 0, 0))), (.float .f32 (smallV (smallS (xs, 0, 0)))), (.float .f32 (FloatKind.nearest FloatKind.f32 (IntKind.wrap IntKind.i64 (-5 - pickV (smallS (smallS (xs, 0, 0))) 4)))), (.float .f32 (smallV (pickS (smallS (smallS (xs, 0, 0))) 4))), (.float .f32 0), (.float .f32 1082130432)]) [])
          (False))
        (False))
      (False))
    (False) := by kernel_rfl
noncomputable def s_spec_B10Ray : Sm := semT [.cell tB] fun x => match x with | (xs, _) => .agg (enc tRay (rayV xs))
theorem ok_spec_B10Ray : FnOk Try.prog 14 s_spec_B10Ray := fnOk_typed (fnOk_runC (C := c_spec_B10Ray) rfl mixed .nil .nil (.cons ok_spec_l00From (.cons ok_spec_l01DrawSmall (.cons ok_spec_l00Src_pick .nil))) Try.func14 (by kernel_rfl)) fun (x : ((List Int) × Unit)) wf K h => by
  obtain ⟨xs, ⟨⟩⟩ := x
  replace h : K (.agg (enc tRay (rayV xs))) [] := h
  rw [w_spec_B10Ray xs K]
  have hb : bytes xs := bytes_of wf.1
  have g0 : inS 0 (xs, 0, 0) = true := inS_iff.2 ⟨Int.le_refl _, Int.le_refl _⟩
  have F1 := far_small (xs, 0, 0)
  have F2 := F1.trans (far_small (smallS (xs, 0, 0)))
  have F3 := F2.trans (far_pick (smallS (smallS (xs, 0, 0))) 4)
  have r := pickV_range (F2.bytes hb) (n := 4) (by omega)
  have a0 : inS 1000000 (xs, 0, 0) = true := (Far.refl (xs, 0, 0)).ok g0 (by omega)
  have a1 : inS 1000000 (smallS (xs, 0, 0)) = true := F1.ok g0 (by omega)
  have a2 : srcIn 6 (smallS (smallS (xs, 0, 0))) = true := inS_src (F2.ok g0 (m := 100) (by omega)) (by omega) 6 (by omega)
  have a3 : inS 1000000 (pickS (smallS (smallS (xs, 0, 0))) 4) = true := F3.ok g0 (by omega)
  refine cond_yes a0 (cond_yes a1 (cond_yes a2 (cond_yes a3 ?_)))
  rw [i64_of (n := -5 - pickV (smallS (smallS (xs, 0, 0))) 4) (by omega) (by omega)]
  exact h

--B marchV List Int → Nat × Nat × Int
def marchV (xs : List Int) : Nat × Nat × Int := (fdiv .f32 (FloatKind.f32.nearest (1 + pickV (xs, 0, 0) 8)) 1115684864, fdiv .f32 (FloatKind.f32.nearest (pickV (pickS (xs, 0, 0) 8) 64)) 1073741824, 1 + pickV (pickS (pickS (xs, 0, 0) 8) 64) 24)
/-! spec.B10March -/
noncomputable def c_spec_B10March : Ctx := mkC Try.prog tyT [] [] [(67, s_spec_l00From), (70, s_spec_l00Src_pick)] 22 (fun _ => none) 0
theorem w_spec_B10March (xs : List Int) (K : V → Heap → Prop) : wpFn c_spec_B10March Try.f15 (encAs [.cell tB] (xs, ())) [] K =
  cond (srcIn 6 (pickS (xs, 0, 0) 8))
    (cond (srcIn 6 (pickS (pickS (xs, 0, 0) 8) 64))
      (K (.agg [(.float .f32 (fdiv FloatKind.f32 (FloatKind.nearest FloatKind.f32 (IntKind.wrap IntKind.i64 (1 + pickV (xs, 0, 0) 8))) 1115684864)), (.float .f32 (fdiv FloatKind.f32 (FloatKind.nearest FloatKind.f32 (pickV (pickS (xs, 0, 0) 8) 64)) 1073741824)), (.int .i64 (IntKind.wrap IntKind.i64 (1 + pickV (pickS (pickS (xs, 0, 0) 8) 64) 24)))]) [])
      (False))
    (False) := by kernel_rfl
noncomputable def s_spec_B10March : Sm := semT [.cell tB] fun x => match x with | (xs, _) => .agg (enc tM (marchV xs))
theorem ok_spec_B10March : FnOk Try.prog 15 s_spec_B10March := fnOk_typed (fnOk_runC (C := c_spec_B10March) rfl mixed .nil .nil (.cons ok_spec_l00From (.cons ok_spec_l00Src_pick .nil)) Try.func15 (by kernel_rfl)) fun (x : ((List Int) × Unit)) wf K h => by
  obtain ⟨xs, ⟨⟩⟩ := x
  replace h : K (.agg (enc tM (marchV xs))) [] := h
  rw [w_spec_B10March xs K]
  have hb : bytes xs := bytes_of wf.1
  have g0 : inS 0 (xs, 0, 0) = true := inS_iff.2 ⟨Int.le_refl _, Int.le_refl _⟩
  have F1 := far_pick (xs, 0, 0) 8
  have F2 := F1.trans (far_pick (pickS (xs, 0, 0) 8) 64)
  have r1 := pickV_range (s := (xs, 0, 0)) hb (n := 8) (by omega)
  have r3 := pickV_range (F2.bytes hb) (n := 24) (by omega)
  have a0 : srcIn 6 (xs, 0, 0) = true := inS_src g0 (by omega) 6 (by omega)
  have a1 : srcIn 6 (pickS (xs, 0, 0) 8) = true := inS_src (F1.ok g0 (m := 100) (by omega)) (by omega) 6 (by omega)
  have a2 : srcIn 6 (pickS (pickS (xs, 0, 0) 8) 64) = true := inS_src (F2.ok g0 (m := 100) (by omega)) (by omega) 6 (by omega)
  refine cond_yes a1 (cond_yes a2 ?_)
  rw [i64_of (n := 1 + pickV (xs, 0, 0) 8) (by omega) (by omega), i64_of (n := 1 + pickV (pickS (pickS (xs, 0, 0) 8) 64) 24) (by omega) (by omega)]
  exact h

theorem all_range {N : Nat} {p : Int → Bool} (h : (List.range N).all (fun j => p (Int.ofNat j)) = true) {n : Int} (hn : 0 ≤ n ∧ n < N) : p n = true := by
  have := List.all_eq_true.1 h n.toNat (by simp; omega)
  have e : Int.ofNat n.toNat = n := Int.toNat_of_nonneg hn.1
  rw [e] at this
  exact this
theorem tab_way : (List.range 33).all (fun j => wayV (unitV (quartV (Int.ofNat j - 16), 0, 1082130432))) = true := by decide +kernel
theorem tab_five : (List.range 4).all (fun j => finN (FloatKind.f32.nearest (-5 - Int.ofNat j))) = true := by decide +kernel
theorem tab_near : (List.range 8).all (fun j => finN (fdiv .f32 (FloatKind.f32.nearest (1 + Int.ofNat j)) 1115684864) && fgt .f32 (fdiv .f32 (FloatKind.f32.nearest (1 + Int.ofNat j)) 1115684864) 0) = true := by decide +kernel
theorem tab_most : (List.range 64).all (fun j => finN (fdiv .f32 (FloatKind.f32.nearest (Int.ofNat j)) 1073741824) && fge .f32 (fdiv .f32 (FloatKind.f32.nearest (Int.ofNat j)) 1073741824) 0) = true := by decide +kernel
theorem ray_ok {xs : List Int} (hb : bytes xs) : rayB (rayV xs) = true := by
  have b1 := (far_small (xs, 0, 0)).bytes hb
  have b2 := ((far_small (xs, 0, 0)).trans (far_small (smallS (xs, 0, 0)))).bytes hb
  have b3 := (far_pick (rayS xs) 4).bytes b2
  have r1 := pickV_range (s := (xs, 0, 0)) hb (n := 33) (by omega)
  have r2 := pickV_range b1 (n := 33) (by omega)
  have r3 := pickV_range b2 (n := 4) (by omega)
  have r4 := pickV_range b3 (n := 33) (by omega)
  have f3 := all_range (p := fun j => finN (FloatKind.f32.nearest (-5 - j))) tab_five r3
  have f4 := all_range (p := fun j => wayV (unitV (quartV (j - 16), 0, 1082130432))) tab_way r4
  have f1 : finN (smallV (xs, 0, 0)) = true := (small_fin r1).1
  have f2 : finN (smallV (smallS (xs, 0, 0))) = true := (small_fin r2).1
  have f4 : wayV (unitV (smallV (pickS (rayS xs) 4), 0, 1082130432)) = true := f4
  have f3 : finN (FloatKind.f32.nearest (-5 - pickV (rayS xs) 4)) = true := f3
  unfold rayB vFin rayV
  simp only [f1, f2, f3, f4, Bool.and_self]
theorem march_ok {xs : List Int} (hb : bytes xs) : marB (marchV xs) = true ∧ 1 ≤ (marchV xs).2.2 ∧ (marchV xs).2.2 ≤ 24 := by
  have b1 := (far_pick (xs, 0, 0) 8).bytes hb
  have b2 := (far_pick (pickS (xs, 0, 0) 8) 64).bytes b1
  have r1 := pickV_range (s := (xs, 0, 0)) hb (n := 8) (by omega)
  have r2 := pickV_range b1 (n := 64) (by omega)
  have r3 := pickV_range b2 (n := 24) (by omega)
  have f1 := all_range (p := fun j => finN (fdiv .f32 (FloatKind.f32.nearest (1 + j)) 1115684864) && fgt .f32 (fdiv .f32 (FloatKind.f32.nearest (1 + j)) 1115684864) 0) tab_near r1
  have f2 := all_range (p := fun j => finN (fdiv .f32 (FloatKind.f32.nearest j) 1073741824) && fge .f32 (fdiv .f32 (FloatKind.f32.nearest j) 1073741824) 0) tab_most r2
  simp only [Bool.and_eq_true] at f1 f2
  refine ⟨?_, by unfold marchV; simp only; omega, by unfold marchV; simp only; omega⟩
  have hr : inR (1 + pickV (pickS (pickS (xs, 0, 0) 8) 64) 24) 1 64 = true := inR_iff.2 (by omega)
  unfold marB marchV
  simp only [f1.1, f1.2, f2.1, f2.2, hr, Bool.and_self]

end Go.Proofs.Ytfhpmcdbfebflaa

/- The law of marches. -/
set_option linter.unusedVariables false
set_option linter.unusedSimpArgs false
set_option maxRecDepth 100000
namespace Go.Proofs.Ytfhpmcdbfebflaa
open Go.Ev Go.Ev.Fl

/-! spec.SameNumber -/
noncomputable def c_spec_SameNumber : Ctx := mkC Try.prog tyT [(81, s_spec_l01Same)] [] [] 8 (fun _ => none) 0
theorem w_spec_SameNumber (x y : Nat) (K : V → Heap → Prop) : wpFn c_spec_SameNumber Try.f23 (encAs [.cell tF, .cell tF] (x, y, ())) [] K =
  K (.bool (x == y)) [] := by kernel_rfl
noncomputable def s_spec_SameNumber : Sm := semT [.cell tF, .cell tF] fun x => match x with | (x, y, _) => .bool (x == y)
theorem ok_spec_SameNumber : FnOk Try.prog 23 s_spec_SameNumber := fnOk_typed (fnOk_runC (C := c_spec_SameNumber) rfl mixed (.cons ok_spec_l01Same .nil) .nil .nil Try.func23 (by kernel_rfl)) fun (x : ((Nat) × (Nat) × Unit)) wf K h => by
  obtain ⟨x, y, ⟨⟩⟩ := x
  replace h : K (.bool (x == y)) [] := h
  rw [w_spec_SameNumber x y K]
  exact h

/-! plain: longer marches -/
theorem marGo_place (ns : ShapeD) (r : RayD) (a c : Nat) (S : Int) : ∀ (n : Nat) (k : Int) (d : Nat), (marGo ns r a c S n k d).2.2.2 = onV r (marGo ns r a c S n k d).2.2.1
  | 0, k, d => rfl
  | n + 1, k, d => by
    have ih := marGo_place ns r a c S n (k + 1) (fadd .f32 d (fdiv .f32 (disV ns (onV r d)) (slopeV ns)))
    unfold marGo
    cases flt .f32 (disV ns (onV r d)) a <;> simp only [cond_true, cond_false]
    cases (!fle .f32 (fadd .f32 d (fdiv .f32 (disV ns (onV r d)) (slopeV ns))) c) <;> simp only [cond_true, cond_false]
    exact ih
/-- How a march ends. -/
theorem marGo_kind (ns : ShapeD) (r : RayD) (a c : Nat) (S : Int) : ∀ (n : Nat) (k : Int) (d : Nat), S = k + n - 1 → 1 ≤ k → 1 ≤ S →
    1 ≤ (marGo ns r a c S n k d).2.1 ∧ (marGo ns r a c S n k d).2.1 ≤ S ∧
    (((marGo ns r a c S n k d).1 = 1 ∧ flt .f32 (disV ns (marGo ns r a c S n k d).2.2.2) a = true) ∨
     ((marGo ns r a c S n k d).1 = 0 ∧ fle .f32 (marGo ns r a c S n k d).2.2.1 c = false) ∨
     ((marGo ns r a c S n k d).1 = 2 ∧ (marGo ns r a c S n k d).2.1 = S))
  | 0, k, d, hS, h1, h2 => ⟨h2, Int.le_refl _, .inr (.inr ⟨rfl, rfl⟩)⟩
  | n + 1, k, d, hS, h1, h2 => by
    have ih := marGo_kind ns r a c S n (k + 1) (fadd .f32 d (fdiv .f32 (disV ns (onV r d)) (slopeV ns))) (by omega) (by omega) h2
    unfold marGo
    cases e1 : flt .f32 (disV ns (onV r d)) a with
    | true => exact ⟨h1, by simp only [cond_true]; omega, .inl ⟨rfl, e1⟩⟩
    | false =>
      simp only [cond_false]
      cases e2 : fle .f32 (fadd .f32 d (fdiv .f32 (disV ns (onV r d)) (slopeV ns))) c with
      | false => exact ⟨h1, by simp only [Bool.not_false, cond_true]; omega, .inr (.inl ⟨rfl, e2⟩)⟩
      | true => exact ih
theorem marGo_more (ns : ShapeD) (r : RayD) (a c : Nat) (S T : Int) (t : Nat) : ∀ (n : Nat) (k : Int) (d : Nat), S = k + n - 1 → T = S + t → 1 ≤ k →
    ((marGo ns r a c S n k d).1 ≠ 2 → marGo ns r a c T (n + t) k d = marGo ns r a c S n k d) ∧ ((marGo ns r a c S n k d).1 = 2 → S ≤ (marGo ns r a c T (n + t) k d).2.1)
  | 0, k, d, hS, hT, hk => by
    refine ⟨fun h => absurd rfl h, fun _ => ?_⟩
    have q : ∀ (t : Nat) (k : Int) (d : Nat), T = k + t - 1 → S < k + 1 → S ≤ T → S ≤ (marGo ns r a c T t k d).2.1
      := by
        intro t
        induction t with
        | zero => intro k d h1 h2 h3; exact h3
        | succ t ih =>
          intro k d h1 h2 h3
          unfold marGo
          cases flt .f32 (disV ns (onV r d)) a with
          | true => simp only [cond_true]; omega
          | false =>
            simp only [cond_false]
            cases (!fle .f32 (fadd .f32 d (fdiv .f32 (disV ns (onV r d)) (slopeV ns))) c) with
            | true => simp only [cond_true]; omega
            | false => exact ih _ _ (by omega) (by omega) h3
    rw [Nat.zero_add]
    exact q t k d (by omega) (by omega) (by omega)
  | n + 1, k, d, hS, hT, hk => by
    have ih := marGo_more ns r a c S T t n (k + 1) (fadd .f32 d (fdiv .f32 (disV ns (onV r d)) (slopeV ns))) (by omega) hT (by omega)
    rw [show n + 1 + t = (n + t) + 1 by omega]
    unfold marGo
    cases flt .f32 (disV ns (onV r d)) a with
    | true => exact ⟨fun _ => rfl, fun h => by cases h⟩
    | false =>
      simp only [cond_false]
      cases (!fle .f32 (fadd .f32 d (fdiv .f32 (disV ns (onV r d)) (slopeV ns))) c) with
      | true => exact ⟨fun _ => rfl, fun h => by cases h⟩
      | false => exact ih

/-! laws.FnMarches -/
noncomputable def c_laws_FnMarches : Ctx := mkC Try.prog tyT [(12, s_laws_b10Long), (13, s_spec_B10Shape), (14, s_spec_B10Ray), (15, s_spec_B10March), (16, s_impl_MarchRay), (17, s_impl_PlaceOn), (18, s_impl_DistanceAt), (19, s_laws_b10At), (20, s_impl_ValidRay), (21, s_impl_ValidMarch), (22, s_spec_SameVector), (23, s_spec_SameNumber)] [] [] 160 (fun _ => none) 0 false [] false true
theorem w_laws_FnMarches (xs ys : List Int) (K : V → Heap → Prop) : wpFn c_laws_FnMarches Try.f3 (encAs [.cell tB, .cell tB] (xs, ys, ())) [] K =
  cond (decide (1048576 < List.length xs) || decide (1048576 < List.length ys))
    (K (.bool true) [])
    (cond (okS (exV (xs, 0, 0)) && (rayB (rayV ys) && marB (marchV xs)))
      (cond (rayB (rayV ys))
        (cond (okS (exV (xs, 0, 0)))
          (cond (okS (exV (xs, 0, 0)) && (rayB (rayV ys) && marB (Prod.fst (marchV xs), Prod.fst (Prod.snd (marchV xs)), IntKind.wrap IntKind.i64 (Prod.snd (Prod.snd (marchV xs)) + bAtV ys 0 20))))
            (cond (!rayB (rayV ys))
              (K (.bool false) [])
              (cond (!marB (marchV xs))
                (K (.bool false) [])
                (cond (!onV (rayV ys) (Prod.fst (Prod.snd (Prod.snd (marV (exV (xs, 0, 0)) (rayV ys) (marchV xs))))) == Prod.snd (Prod.snd (Prod.snd (marV (exV (xs, 0, 0)) (rayV ys) (marchV xs)))))
                  (K (.bool false) [])
                  (cond (decide (Prod.fst (Prod.snd (marV (exV (xs, 0, 0)) (rayV ys) (marchV xs))) < 1))
                    (K (.bool false) [])
                    (cond (decide (Prod.fst (Prod.snd (marV (exV (xs, 0, 0)) (rayV ys) (marchV xs))) > Prod.snd (Prod.snd (marchV xs))))
                      (K (.bool false) [])
                      (cond (Prod.fst (marV (exV (xs, 0, 0)) (rayV ys) (marchV xs)) == 1)
                        (cond (!flt FloatKind.f32 (disV (exV (xs, 0, 0)) (Prod.snd (Prod.snd (Prod.snd (marV (exV (xs, 0, 0)) (rayV ys) (marchV xs)))))) (Prod.fst (marchV xs)))
                          (K (.bool false) [])
                          (cond (Prod.fst (marV (exV (xs, 0, 0)) (rayV ys) (Prod.fst (marchV xs), Prod.fst (Prod.snd (marchV xs)), IntKind.wrap IntKind.i64 (Prod.snd (Prod.snd (marchV xs)) + bAtV ys 0 20))) == Prod.fst (marV (exV (xs, 0, 0)) (rayV ys) (marchV xs)))
                            (cond (Prod.fst (Prod.snd (marV (exV (xs, 0, 0)) (rayV ys) (Prod.fst (marchV xs), Prod.fst (Prod.snd (marchV xs)), IntKind.wrap IntKind.i64 (Prod.snd (Prod.snd (marchV xs)) + bAtV ys 0 20)))) == Prod.fst (Prod.snd (marV (exV (xs, 0, 0)) (rayV ys) (marchV xs))))
                              (cond (Prod.fst (Prod.snd (Prod.snd (marV (exV (xs, 0, 0)) (rayV ys) (Prod.fst (marchV xs), Prod.fst (Prod.snd (marchV xs)), IntKind.wrap IntKind.i64 (Prod.snd (Prod.snd (marchV xs)) + bAtV ys 0 20))))) == Prod.fst (Prod.snd (Prod.snd (marV (exV (xs, 0, 0)) (rayV ys) (marchV xs)))))
                                (K (.bool (Prod.snd (Prod.snd (Prod.snd (marV (exV (xs, 0, 0)) (rayV ys) (Prod.fst (marchV xs), Prod.fst (Prod.snd (marchV xs)), IntKind.wrap IntKind.i64 (Prod.snd (Prod.snd (marchV xs)) + bAtV ys 0 20))))) == Prod.snd (Prod.snd (Prod.snd (marV (exV (xs, 0, 0)) (rayV ys) (marchV xs)))))) [])
                                (K (.bool false) []))
                              (K (.bool false) []))
                            (K (.bool false) [])))
                        (cond (Prod.fst (marV (exV (xs, 0, 0)) (rayV ys) (marchV xs)) == 0)
                          (cond (fle FloatKind.f32 (Prod.fst (Prod.snd (Prod.snd (marV (exV (xs, 0, 0)) (rayV ys) (marchV xs))))) (Prod.fst (Prod.snd (marchV xs))))
                            (K (.bool false) [])
                            (cond (Prod.fst (marV (exV (xs, 0, 0)) (rayV ys) (Prod.fst (marchV xs), Prod.fst (Prod.snd (marchV xs)), IntKind.wrap IntKind.i64 (Prod.snd (Prod.snd (marchV xs)) + bAtV ys 0 20))) == Prod.fst (marV (exV (xs, 0, 0)) (rayV ys) (marchV xs)))
                              (cond (Prod.fst (Prod.snd (marV (exV (xs, 0, 0)) (rayV ys) (Prod.fst (marchV xs), Prod.fst (Prod.snd (marchV xs)), IntKind.wrap IntKind.i64 (Prod.snd (Prod.snd (marchV xs)) + bAtV ys 0 20)))) == Prod.fst (Prod.snd (marV (exV (xs, 0, 0)) (rayV ys) (marchV xs))))
                                (cond (Prod.fst (Prod.snd (Prod.snd (marV (exV (xs, 0, 0)) (rayV ys) (Prod.fst (marchV xs), Prod.fst (Prod.snd (marchV xs)), IntKind.wrap IntKind.i64 (Prod.snd (Prod.snd (marchV xs)) + bAtV ys 0 20))))) == Prod.fst (Prod.snd (Prod.snd (marV (exV (xs, 0, 0)) (rayV ys) (marchV xs)))))
                                  (K (.bool (Prod.snd (Prod.snd (Prod.snd (marV (exV (xs, 0, 0)) (rayV ys) (Prod.fst (marchV xs), Prod.fst (Prod.snd (marchV xs)), IntKind.wrap IntKind.i64 (Prod.snd (Prod.snd (marchV xs)) + bAtV ys 0 20))))) == Prod.snd (Prod.snd (Prod.snd (marV (exV (xs, 0, 0)) (rayV ys) (marchV xs)))))) [])
                                  (K (.bool false) []))
                                (K (.bool false) []))
                              (K (.bool false) [])))
                          (cond (Prod.fst (marV (exV (xs, 0, 0)) (rayV ys) (marchV xs)) == 2)
                            (cond (Prod.fst (Prod.snd (marV (exV (xs, 0, 0)) (rayV ys) (marchV xs))) == Prod.snd (Prod.snd (marchV xs)))
                              (K (.bool (decide (Prod.fst (Prod.snd (marV (exV (xs, 0, 0)) (rayV ys) (Prod.fst (marchV xs), Prod.fst (Prod.snd (marchV xs)), IntKind.wrap IntKind.i64 (Prod.snd (Prod.snd (marchV xs)) + bAtV ys 0 20)))) ≥ Prod.fst (Prod.snd (marV (exV (xs, 0, 0)) (rayV ys) (marchV xs)))))) [])
                              (K (.bool false) []))
                            (K (.bool false) [])))))))))
            (False))
          (False))
        (False))
      (False)) := by kernel_rfl
noncomputable def s_laws_FnMarches : Sm := semT [.cell tB, .cell tB] fun x => match x with | (xs, ys, _) => .bool true
theorem ok_laws_FnMarches : FnOk Try.prog 3 s_laws_FnMarches := fnOk_typed (fnOk_runC (C := c_laws_FnMarches) rfl mixed (.cons ok_laws_b10Long (.cons ok_spec_B10Shape (.cons ok_spec_B10Ray (.cons ok_spec_B10March (.cons ok_impl_MarchRay (.cons ok_impl_PlaceOn (.cons ok_impl_DistanceAt (.cons ok_laws_b10At (.cons ok_impl_ValidRay (.cons ok_impl_ValidMarch (.cons ok_spec_SameVector (.cons ok_spec_SameNumber .nil)))))))))))) .nil .nil Try.func3 (by kernel_rfl)) fun (x : ((List Int) × (List Int) × Unit)) wf K h => by
  obtain ⟨xs, ys, ⟨⟩⟩ := x
  replace h : K (.bool true) [] := h
  rw [w_laws_FnMarches xs ys K]
  have bx : bytes xs := bytes_of wf.1
  have bY : bytes ys := bytes_of wf.2.1
  have hS := ex_okS (s := (xs, 0, 0)) bx
  have hR := ray_ok bY
  obtain ⟨hM, m1, m2⟩ := march_ok bx
  have ht := bAt_range bY (i := 0) (n := 20) (by omega) (by omega)
  cases (decide (1048576 < xs.length) || decide (1048576 < ys.length)) with
  | true => exact h
  | false =>
  generalize exV (xs, 0, 0) = ns at *
  generalize rayV ys = r at *
  generalize bAtV ys 0 20 = t at *
  generalize marchV xs = m at *
  obtain ⟨a, c, n⟩ := m
  simp only at m1 m2 ⊢
  have hw : IntKind.i64.wrap (n + t) = n + t := i64_of (by omega) (by omega)
  have hM2 : marB (a, c, n + t) = true := by
    unfold marB at hM ⊢
    simp only [Bool.and_eq_true] at hM ⊢
    exact ⟨hM.1, hM.2.1, hM.2.2.1, inR_iff.2 (by omega)⟩
  rw [hw, hS, hR, hM, hM2]
  simp only [Bool.and_self, Bool.not_true, cond_true, cond_false]
  have kd := marGo_kind ns r a c n n.toNat 1 0 (by omega) (by omega) (by omega)
  have pl := marGo_place ns r a c n n.toNat 1 0
  have mo := marGo_more ns r a c n (n + t) t.toNat n.toNat 1 0 (by omega) (by omega) (by omega)
  rw [show n.toNat + t.toNat = (n + t).toNat by omega] at mo
  have e1 : marV ns r (a, c, n) = marGo ns r a c n n.toNat 1 0 := rfl
  have e2 : marV ns r (a, c, n + t) = marGo ns r a c (n + t) (n + t).toNat 1 0 := rfl
  rw [e1, e2]
  generalize marGo ns r a c (n + t) (n + t).toNat 1 0 = q' at *
  generalize marGo ns r a c n n.toNat 1 0 = q at *
  obtain ⟨k1, k2, k3⟩ := kd
  have ep : (onV r q.2.2.1 == q.2.2.2) = true := by rw [pl]; exact beq_self_eq_true _
  rw [ep, d_f (show ¬ q.2.1 < 1 by omega), d_f (show ¬ q.2.1 > n by omega)]
  simp only [Bool.not_true, cond_false]
  rcases k3 with ⟨a1, a2⟩ | ⟨a1, a2⟩ | ⟨a1, a2⟩
  · have e3 := mo.1 (by rw [a1]; decide)
    rw [e3, a2, a1]
    simp only [beq_self_eq_true, Bool.not_true, cond_true, cond_false]
    exact h
  · have e3 := mo.1 (by rw [a1]; decide)
    rw [e3, a2, a1]
    simp only [beq_self_eq_true, cond_true, cond_false, show ((0 : Int) == 1) = false from rfl]
    exact h
  · have e3 := mo.2 a1
    rw [a1, a2]
    simp only [beq_self_eq_true, cond_true, cond_false, show ((2 : Int) == 1) = false from rfl, show ((2 : Int) == 0) = false from rfl]
    rw [d_t (show q'.2.1 ≥ n by omega)]
    exact h

end Go.Proofs.Ytfhpmcdbfebflaa

