/- What all laws of the seat share: types and the functions of single numbers. -/
import Derived.Test.YtmkomfhnomnbiaaEvLem
import Derived.Test.YtmkomfhnomnbiaaRows
set_option linter.unusedVariables false
set_option linter.unusedSimpArgs false
set_option maxRecDepth 100000
namespace Go.Proofs.Ytmkomfhnomnbiaa
open Go.Ev
noncomputable abbrev tyT : TypeId → Ty := elemTy Try.prog
abbrev tF : Ty := .float .f32
abbrev tV : Ty := .pair tF (.pair tF tF)
abbrev tB : Ty := .slice (.int .u8)
abbrev tSrc : Ty := .pair tB (.pair (.int .i64) (.int .u64))
theorem mixed : Try.prog.follows .mixedOrders = true := by kernel_rfl

abbrev s_math_Float32bits : Sm := sF32bits
theorem ok_math_Float32bits : FnOk Try.prog 72 sF32bits := ok_F32bits Try.func72 (by kernel_rfl) (by kernel_rfl) (by kernel_rfl) (by kernel_rfl)

/-! impl.isNaN -/
noncomputable def c_impl_isNaN : Ctx := mkC Try.prog tyT [] [] [] 6 (fun _ => none) 0
theorem w_impl_isNaN (x : Nat) (K : V → Heap → Prop) : wpFn c_impl_isNaN Try.f71 (encAs [.cell tF] (x, ())) [] K =
  K (.bool (!feq FloatKind.f32 x x)) [] := by kernel_rfl
noncomputable def s_impl_isNaN : Sm := semT [.cell tF] fun x => match x with | (x, _) => .bool (nan .f32 x)
theorem ok_impl_isNaN : FnOk Try.prog 71 s_impl_isNaN := fnOk_typed (fnOk_runC (C := c_impl_isNaN) rfl mixed .nil .nil .nil Try.func71 (by kernel_rfl)) fun (x : ((Nat) × Unit)) wf K h => by
  obtain ⟨x, ⟨⟩⟩ := x
  replace h : K (.bool (nan .f32 x)) [] := h
  rw [w_impl_isNaN x K]
  rw [feq_self, Bool.not_not]
  exact h



abbrev V3 := Nat × Nat × Nat

/-! impl.SameNumber -/
noncomputable def c_impl_SameNumber : Ctx := mkC Try.prog tyT [(71, s_impl_isNaN), (72, s_math_Float32bits)] [] [] 22 (fun _ => none) 0
theorem w_impl_SameNumber (x y : Nat) (K : V → Heap → Prop) : wpFn c_impl_SameNumber Try.f58 (encAs [.cell tF, .cell tF] (x, y, ())) [] K =
  cond (nan FloatKind.f32 x)
    (cond (nan FloatKind.f32 x)
      (K (.bool (nan FloatKind.f32 y)) [])
      (K (.bool false) []))
    (cond (nan FloatKind.f32 y)
      (cond (nan FloatKind.f32 x)
        (K (.bool (nan FloatKind.f32 y)) [])
        (K (.bool false) []))
      (cond (nan FloatKind.f32 x)
        (cond (nan FloatKind.f32 y)
          (False)
          (False))
        (cond (nan FloatKind.f32 y)
          (False)
          (K (.bool ((↑x : Int) == (↑y : Int))) [])))) := by kernel_rfl
noncomputable def s_impl_SameNumber : Sm := semT [.cell tF, .cell tF] fun x => match x with | (x, y, _) => .bool (x == y)
theorem ok_impl_SameNumber : FnOk Try.prog 58 s_impl_SameNumber := fnOk_typed (fnOk_runC (C := c_impl_SameNumber) rfl mixed (.cons ok_impl_isNaN (.cons ok_math_Float32bits .nil)) .nil .nil Try.func58 (by kernel_rfl)) fun (x : ((Nat) × (Nat) × Unit)) wf K h => by
  obtain ⟨x, y, ⟨⟩⟩ := x
  replace h : K (.bool (x == y)) [] := h
  rw [w_impl_SameNumber x y K]
  obtain ⟨⟨_, wx⟩, ⟨_, wy⟩, _⟩ := wf
  rw [beq_cast]
  cases ex : nan .f32 x <;> cases ey : nan .f32 y <;> simp only [cond_true, cond_false]
  · exact h
  · have : (x == y) = false := beq_eq_false_iff_ne.2 fun e => by rw [e, ey] at ex; cases ex
    rw [this] at h; exact h
  · have : (x == y) = false := beq_eq_false_iff_ne.2 fun e => by rw [e, ey] at ex; cases ex
    rw [this] at h; exact h
  · have : x = y := wx.symm.trans ((canon_nan ex).trans ((canon_nan ey).symm.trans wy))
    rw [this, beq_self_eq_true] at h; exact h

end Go.Proofs.Ytmkomfhnomnbiaa
