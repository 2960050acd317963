/- What all laws of the seat share: types and the functions of single numbers. -/
import Derived.Test.YtbalmdjicdeeiaaEvLem
import Derived.Test.YtbalmdjicdeeiaaRows
set_option linter.unusedVariables false
set_option linter.unusedSimpArgs false
set_option maxRecDepth 100000
namespace Go.Proofs.Ytbalmdjicdeeiaa
open Go.Ev
noncomputable abbrev tyT : TypeId → Ty := elemTy Try.prog
abbrev tF : Ty := .float .f32
abbrev tV : Ty := .pair tF (.pair tF tF)
abbrev tB : Ty := .slice (.int .u8)
abbrev tSrc : Ty := .pair tB (.pair (.int .i64) (.int .u64))
theorem mixed : Try.prog.follows .mixedOrders = true := by kernel_rfl

abbrev s_math_Float32bits : Sm := sF32bits
theorem ok_math_Float32bits : FnOk Try.prog 151 sF32bits := ok_F32bits Try.func151 (by kernel_rfl) (by kernel_rfl) (by kernel_rfl) (by kernel_rfl)

/-! impl.isNaN -/
noncomputable def c_impl_isNaN : Ctx := mkC Try.prog tyT [] [] [] 6 (fun _ => none) 0
theorem w_impl_isNaN (x : Nat) (K : V → Heap → Prop) : wpFn c_impl_isNaN Try.f150 (encAs [.cell tF] (x, ())) [] K =
  K (.bool (!feq FloatKind.f32 x x)) [] := by kernel_rfl
noncomputable def s_impl_isNaN : Sm := semT [.cell tF] fun x => match x with | (x, _) => .bool (nan .f32 x)
theorem ok_impl_isNaN : FnOk Try.prog 150 s_impl_isNaN := fnOk_typed (fnOk_runC (C := c_impl_isNaN) rfl mixed .nil .nil .nil Try.func150 (by kernel_rfl)) fun (x : ((Nat) × Unit)) wf K h => by
  obtain ⟨x, ⟨⟩⟩ := x
  replace h : K (.bool (nan .f32 x)) [] := h
  rw [w_impl_isNaN x K]
  rw [feq_self, Bool.not_not]
  exact h

/-! spec.l01Bits -/
noncomputable def c_spec_l01Bits : Ctx := mkC Try.prog tyT [(151, s_math_Float32bits)] [] [] 9 (fun _ => none) 0
theorem w_spec_l01Bits (x : Nat) (K : V → Heap → Prop) : wpFn c_spec_l01Bits Try.f155 (encAs [.cell tF] (x, ())) [] K =
  cond (!feq FloatKind.f32 x x)
    (K (.int .i64 2143289344) [])
    (cond (nan FloatKind.f32 x)
      (False)
      (K (.int .i64 (IntKind.wrap IntKind.i64 (↑x : Int))) [])) := by kernel_rfl
noncomputable def s_spec_l01Bits : Sm := semT [.cell tF] fun x => match x with | (x, _) => .int .i64 x
theorem ok_spec_l01Bits : FnOk Try.prog 155 s_spec_l01Bits := fnOk_typed (fnOk_runC (C := c_spec_l01Bits) rfl mixed (.cons ok_math_Float32bits .nil) .nil .nil Try.func155 (by kernel_rfl)) fun (x : ((Nat) × Unit)) wf K h => by
  obtain ⟨x, ⟨⟩⟩ := x
  replace h : K (.int .i64 x) [] := h
  rw [w_spec_l01Bits x K]
  obtain ⟨⟨w1, w2⟩, _⟩ := wf
  rw [feq_self, Bool.not_not]
  cases e : nan .f32 x with
  | true => simp only [cond_true]; replace w2 : canon .f32 x = x := w2; rw [← w2, canon_nan e] at h; exact h
  | false =>
    simp only [cond_false]
    rw [i64_of (by omega) (Int.le_trans (Int.ofNat_le.2 (Nat.le_of_lt w1)) (by decide))]
    exact h

/-! spec.l01Same -/
noncomputable def c_spec_l01Same : Ctx := mkC Try.prog tyT [(155, s_spec_l01Bits)] [] [] 10 (fun _ => none) 0
theorem w_spec_l01Same (x y : Nat) (K : V → Heap → Prop) : wpFn c_spec_l01Same Try.f120 (encAs [.cell tF, .cell tF] (x, y, ())) [] K =
  K (.bool ((↑x : Int) == (↑y : Int))) [] := by kernel_rfl
noncomputable def s_spec_l01Same : Sm := semT [.cell tF, .cell tF] fun x => match x with | (x, y, _) => .bool (x == y)
theorem ok_spec_l01Same : FnOk Try.prog 120 s_spec_l01Same := fnOk_typed (fnOk_runC (C := c_spec_l01Same) rfl mixed (.cons ok_spec_l01Bits .nil) .nil .nil Try.func120 (by kernel_rfl)) fun (x : ((Nat) × (Nat) × Unit)) wf K h => by
  obtain ⟨x, y, ⟨⟩⟩ := x
  replace h : K (.bool (x == y)) [] := h
  rw [w_spec_l01Same x y K]
  rw [beq_cast]; exact h

abbrev V3 := Nat × Nat × Nat
/-! spec.l01VSame -/
noncomputable def c_spec_l01VSame : Ctx := mkC Try.prog tyT [(120, s_spec_l01Same)] [] [] 24 (fun _ => none) 0
theorem w_spec_l01VSame (u v : V3) (K : V → Heap → Prop) : wpFn c_spec_l01VSame Try.f83 (encAs [.agg tV, .agg tV] (u, v, ())) [] K =
  cond (Prod.fst u == Prod.fst v)
    (cond (Prod.fst (Prod.snd u) == Prod.fst (Prod.snd v))
      (K (.bool (Prod.snd (Prod.snd u) == Prod.snd (Prod.snd v))) [])
      (K (.bool false) []))
    (K (.bool false) []) := by kernel_rfl
noncomputable def s_spec_l01VSame : Sm := semT [.agg tV, .agg tV] fun x => match x with | (u, v, _) => .bool (u == v)
theorem ok_spec_l01VSame : FnOk Try.prog 83 s_spec_l01VSame := fnOk_typed (fnOk_runC (C := c_spec_l01VSame) rfl mixed (.cons ok_spec_l01Same .nil) .nil .nil Try.func83 (by kernel_rfl)) fun (x : ((V3) × (V3) × Unit)) wf K h => by
  obtain ⟨u, v, ⟨⟩⟩ := x
  replace h : K (.bool (u == v)) [] := h
  rw [w_spec_l01VSame u v K]
  replace h : K (.bool (u.1 == v.1 && (u.2.1 == v.2.1 && u.2.2 == v.2.2))) [] := h
  revert h
  cases u.1 == v.1 <;> cases u.2.1 == v.2.1 <;> exact id

/-! impl.SameNumber -/
noncomputable def c_impl_SameNumber : Ctx := mkC Try.prog tyT [(150, s_impl_isNaN), (151, s_math_Float32bits)] [] [] 22 (fun _ => none) 0
theorem w_impl_SameNumber (x y : Nat) (K : V → Heap → Prop) : wpFn c_impl_SameNumber Try.f157 (encAs [.cell tF, .cell tF] (x, y, ())) [] K =
  cond (nan FloatKind.f32 x)
    (cond (nan FloatKind.f32 x)
      (K (.bool (nan FloatKind.f32 y)) [])
      (K (.bool false) []))
    (cond (nan FloatKind.f32 y)
      (cond (nan FloatKind.f32 x)
        (K (.bool (nan FloatKind.f32 y)) [])
        (K (.bool false) []))
      (cond (nan FloatKind.f32 x)
        (cond (nan FloatKind.f32 y)
          (False)
          (False))
        (cond (nan FloatKind.f32 y)
          (False)
          (K (.bool ((↑x : Int) == (↑y : Int))) [])))) := by kernel_rfl
noncomputable def s_impl_SameNumber : Sm := semT [.cell tF, .cell tF] fun x => match x with | (x, y, _) => .bool (x == y)
theorem ok_impl_SameNumber : FnOk Try.prog 157 s_impl_SameNumber := fnOk_typed (fnOk_runC (C := c_impl_SameNumber) rfl mixed (.cons ok_impl_isNaN (.cons ok_math_Float32bits .nil)) .nil .nil Try.func157 (by kernel_rfl)) fun (x : ((Nat) × (Nat) × Unit)) wf K h => by
  obtain ⟨x, y, ⟨⟩⟩ := x
  replace h : K (.bool (x == y)) [] := h
  rw [w_impl_SameNumber x y K]
  obtain ⟨⟨_, wx⟩, ⟨_, wy⟩, _⟩ := wf
  rw [beq_cast]
  cases ex : nan .f32 x <;> cases ey : nan .f32 y <;> simp only [cond_true, cond_false]
  · exact h
  · have : (x == y) = false := beq_eq_false_iff_ne.2 fun e => by rw [e, ey] at ex; cases ex
    rw [this] at h; exact h
  · have : (x == y) = false := beq_eq_false_iff_ne.2 fun e => by rw [e, ey] at ex; cases ex
    rw [this] at h; exact h
  · have : x = y := wx.symm.trans ((canon_nan ex).trans ((canon_nan ey).symm.trans wy))
    rw [this, beq_self_eq_true] at h; exact h

end Go.Proofs.Ytbalmdjicdeeiaa
