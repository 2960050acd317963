/- What all laws of the seat share: types and the functions of single numbers. -/
import Derived.Test.YtdlglcacdgcapaaDoorEvLem
import Derived.Test.YtdlglcacdgcapaaDoorRows
set_option linter.unusedVariables false
set_option linter.unusedSimpArgs false
set_option maxRecDepth 100000
namespace Go.Proofs.YtdlglcacdgcapaaDoor
open Go.Ev
noncomputable abbrev tyT : TypeId → Ty := elemTy Tryd.prog
abbrev tF : Ty := .float .f32
abbrev tV : Ty := .pair tF (.pair tF tF)
abbrev tB : Ty := .slice (.int .u8)
abbrev tSrc : Ty := .pair tB (.pair (.int .i64) (.int .u64))
theorem mixed : Tryd.prog.follows .mixedOrders = true := by kernel_rfl

abbrev s_math_Float32bits : Sm := sF32bits
theorem ok_math_Float32bits : FnOk Tryd.prog 46 sF32bits := ok_F32bits Tryd.func46 (by kernel_rfl) (by kernel_rfl) (by kernel_rfl) (by kernel_rfl)
abbrev s_math_Float32frombits : Sm := sF32from
theorem ok_math_Float32frombits : FnOk Tryd.prog 56 sF32from := ok_F32from Tryd.func56 (by kernel_rfl) (by kernel_rfl) (by kernel_rfl) (by kernel_rfl)
abbrev s_math_sqrt : Sm := sSqrt
theorem ok_math_sqrt : FnOk Tryd.prog 47 sSqrt := ok_sqrt Tryd.func47 (by kernel_rfl) (by kernel_rfl) (by kernel_rfl) (by kernel_rfl)

/-! impl.isNaN -/
noncomputable def c_impl_isNaN : Ctx := mkC Tryd.prog tyT [] [] [] 6 (fun _ => none) 0
theorem w_impl_isNaN (x : Nat) (K : V → Heap → Prop) : wpFn c_impl_isNaN Tryd.f51 (encAs [.cell tF] (x, ())) [] K =
  K (.bool (!feq FloatKind.f32 x x)) [] := by kernel_rfl
noncomputable def s_impl_isNaN : Sm := semT [.cell tF] fun x => match x with | (x, _) => .bool (nan .f32 x)
theorem ok_impl_isNaN : FnOk Tryd.prog 51 s_impl_isNaN := fnOk_typed (fnOk_runC (C := c_impl_isNaN) rfl mixed .nil .nil .nil Tryd.func51 (by kernel_rfl)) fun (x : ((Nat) × Unit)) wf K h => by
  obtain ⟨x, ⟨⟩⟩ := x
  replace h : K (.bool (nan .f32 x)) [] := h
  rw [w_impl_isNaN x K]
  rw [feq_self, Bool.not_not]
  exact h

/-! spec.l01Bits -/
noncomputable def c_spec_l01Bits : Ctx := mkC Tryd.prog tyT [(46, s_math_Float32bits)] [] [] 9 (fun _ => none) 0
theorem w_spec_l01Bits (x : Nat) (K : V → Heap → Prop) : wpFn c_spec_l01Bits Tryd.f33 (encAs [.cell tF] (x, ())) [] K =
  cond (!feq FloatKind.f32 x x)
    (K (.int .i64 2143289344) [])
    (cond (nan FloatKind.f32 x)
      (False)
      (K (.int .i64 (IntKind.wrap IntKind.i64 (↑x : Int))) [])) := by kernel_rfl
noncomputable def s_spec_l01Bits : Sm := semT [.cell tF] fun x => match x with | (x, _) => .int .i64 x
theorem ok_spec_l01Bits : FnOk Tryd.prog 33 s_spec_l01Bits := fnOk_typed (fnOk_runC (C := c_spec_l01Bits) rfl mixed (.cons ok_math_Float32bits .nil) .nil .nil Tryd.func33 (by kernel_rfl)) fun (x : ((Nat) × Unit)) wf K h => by
  obtain ⟨x, ⟨⟩⟩ := x
  replace h : K (.int .i64 x) [] := h
  rw [w_spec_l01Bits x K]
  obtain ⟨⟨w1, w2⟩, _⟩ := wf
  rw [feq_self, Bool.not_not]
  cases e : nan .f32 x with
  | true => simp only [cond_true]; replace w2 : canon .f32 x = x := w2; rw [← w2, canon_nan e] at h; exact h
  | false =>
    simp only [cond_false]
    rw [i64_of (by omega) (Int.le_trans (Int.ofNat_le.2 (Nat.le_of_lt w1)) (by decide))]
    exact h

/-! spec.l01Same -/
noncomputable def c_spec_l01Same : Ctx := mkC Tryd.prog tyT [(33, s_spec_l01Bits)] [] [] 10 (fun _ => none) 0
theorem w_spec_l01Same (x y : Nat) (K : V → Heap → Prop) : wpFn c_spec_l01Same Tryd.f24 (encAs [.cell tF, .cell tF] (x, y, ())) [] K =
  K (.bool ((↑x : Int) == (↑y : Int))) [] := by kernel_rfl
noncomputable def s_spec_l01Same : Sm := semT [.cell tF, .cell tF] fun x => match x with | (x, y, _) => .bool (x == y)
theorem ok_spec_l01Same : FnOk Tryd.prog 24 s_spec_l01Same := fnOk_typed (fnOk_runC (C := c_spec_l01Same) rfl mixed (.cons ok_spec_l01Bits .nil) .nil .nil Tryd.func24 (by kernel_rfl)) fun (x : ((Nat) × (Nat) × Unit)) wf K h => by
  obtain ⟨x, y, ⟨⟩⟩ := x
  replace h : K (.bool (x == y)) [] := h
  rw [w_spec_l01Same x y K]
  rw [beq_cast]; exact h

abbrev V3 := Nat × Nat × Nat

/-! impl.SameNumber -/
noncomputable def c_impl_SameNumber : Ctx := mkC Tryd.prog tyT [(51, s_impl_isNaN), (46, s_math_Float32bits)] [] [] 22 (fun _ => none) 0
theorem w_impl_SameNumber (x y : Nat) (K : V → Heap → Prop) : wpFn c_impl_SameNumber Tryd.f45 (encAs [.cell tF, .cell tF] (x, y, ())) [] K =
  cond (nan FloatKind.f32 x)
    (cond (nan FloatKind.f32 x)
      (K (.bool (nan FloatKind.f32 y)) [])
      (K (.bool false) []))
    (cond (nan FloatKind.f32 y)
      (cond (nan FloatKind.f32 x)
        (K (.bool (nan FloatKind.f32 y)) [])
        (K (.bool false) []))
      (cond (nan FloatKind.f32 x)
        (cond (nan FloatKind.f32 y)
          (False)
          (False))
        (cond (nan FloatKind.f32 y)
          (False)
          (K (.bool ((↑x : Int) == (↑y : Int))) [])))) := by kernel_rfl
noncomputable def s_impl_SameNumber : Sm := semT [.cell tF, .cell tF] fun x => match x with | (x, y, _) => .bool (x == y)
theorem ok_impl_SameNumber : FnOk Tryd.prog 45 s_impl_SameNumber := fnOk_typed (fnOk_runC (C := c_impl_SameNumber) rfl mixed (.cons ok_impl_isNaN (.cons ok_math_Float32bits .nil)) .nil .nil Tryd.func45 (by kernel_rfl)) fun (x : ((Nat) × (Nat) × Unit)) wf K h => by
  obtain ⟨x, y, ⟨⟩⟩ := x
  replace h : K (.bool (x == y)) [] := h
  rw [w_impl_SameNumber x y K]
  obtain ⟨⟨_, wx⟩, ⟨_, wy⟩, _⟩ := wf
  rw [beq_cast]
  cases ex : nan .f32 x <;> cases ey : nan .f32 y <;> simp only [cond_true, cond_false]
  · exact h
  · have : (x == y) = false := beq_eq_false_iff_ne.2 fun e => by rw [e, ey] at ex; cases ex
    rw [this] at h; exact h
  · have : (x == y) = false := beq_eq_false_iff_ne.2 fun e => by rw [e, ey] at ex; cases ex
    rw [this] at h; exact h
  · have : x = y := wx.symm.trans ((canon_nan ex).trans ((canon_nan ey).symm.trans wy))
    rw [this, beq_self_eq_true] at h; exact h

end Go.Proofs.YtdlglcacdgcapaaDoor
