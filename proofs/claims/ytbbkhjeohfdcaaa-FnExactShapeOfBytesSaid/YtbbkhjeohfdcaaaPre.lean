/- What all laws of the seat share: types and the functions of single numbers. -/
import Derived.Test.YtbbkhjeohfdcaaaEvLem
import Derived.Test.YtbbkhjeohfdcaaaRows
set_option linter.unusedVariables false
set_option linter.unusedSimpArgs false
set_option maxRecDepth 100000
namespace Go.Proofs.Ytbbkhjeohfdcaaa
open Go.Ev
noncomputable abbrev tyT : TypeId → Ty := elemTy Try.prog
abbrev tF : Ty := .float .f32
abbrev tV : Ty := .pair tF (.pair tF tF)
abbrev tB : Ty := .slice (.int .u8)
abbrev tSrc : Ty := .pair tB (.pair (.int .i64) (.int .u64))
theorem mixed : Try.prog.follows .mixedOrders = true := by kernel_rfl

abbrev s_math_Float32bits : Sm := sF32bits
theorem ok_math_Float32bits : FnOk Try.prog 55 sF32bits := ok_F32bits Try.func55 (by kernel_rfl) (by kernel_rfl) (by kernel_rfl) (by kernel_rfl)
abbrev s_math_Float32frombits : Sm := sF32from
theorem ok_math_Float32frombits : FnOk Try.prog 53 sF32from := ok_F32from Try.func53 (by kernel_rfl) (by kernel_rfl) (by kernel_rfl) (by kernel_rfl)

/-! impl.isNaN -/
noncomputable def c_impl_isNaN : Ctx := mkC Try.prog tyT [] [] [] 6 (fun _ => none) 0
theorem w_impl_isNaN (x : Nat) (K : V → Heap → Prop) : wpFn c_impl_isNaN Try.f59 (encAs [.cell tF] (x, ())) [] K =
  K (.bool (!feq FloatKind.f32 x x)) [] := by kernel_rfl
noncomputable def s_impl_isNaN : Sm := semT [.cell tF] fun x => match x with | (x, _) => .bool (nan .f32 x)
theorem ok_impl_isNaN : FnOk Try.prog 59 s_impl_isNaN := fnOk_typed (fnOk_runC (C := c_impl_isNaN) rfl mixed .nil .nil .nil Try.func59 (by kernel_rfl)) fun (x : ((Nat) × Unit)) wf K h => by
  obtain ⟨x, ⟨⟩⟩ := x
  replace h : K (.bool (nan .f32 x)) [] := h
  rw [w_impl_isNaN x K]
  rw [feq_self, Bool.not_not]
  exact h

/-! spec.l01Bits -/
noncomputable def c_spec_l01Bits : Ctx := mkC Try.prog tyT [(55, s_math_Float32bits)] [] [] 9 (fun _ => none) 0
theorem w_spec_l01Bits (x : Nat) (K : V → Heap → Prop) : wpFn c_spec_l01Bits Try.f44 (encAs [.cell tF] (x, ())) [] K =
  cond (!feq FloatKind.f32 x x)
    (K (.int .i64 2143289344) [])
    (cond (nan FloatKind.f32 x)
      (False)
      (K (.int .i64 (IntKind.wrap IntKind.i64 (↑x : Int))) [])) := by kernel_rfl
noncomputable def s_spec_l01Bits : Sm := semT [.cell tF] fun x => match x with | (x, _) => .int .i64 x
theorem ok_spec_l01Bits : FnOk Try.prog 44 s_spec_l01Bits := fnOk_typed (fnOk_runC (C := c_spec_l01Bits) rfl mixed (.cons ok_math_Float32bits .nil) .nil .nil Try.func44 (by kernel_rfl)) fun (x : ((Nat) × Unit)) wf K h => by
  obtain ⟨x, ⟨⟩⟩ := x
  replace h : K (.int .i64 x) [] := h
  rw [w_spec_l01Bits x K]
  obtain ⟨⟨w1, w2⟩, _⟩ := wf
  rw [feq_self, Bool.not_not]
  cases e : nan .f32 x with
  | true => simp only [cond_true]; replace w2 : canon .f32 x = x := w2; rw [← w2, canon_nan e] at h; exact h
  | false =>
    simp only [cond_false]
    rw [i64_of (by omega) (Int.le_trans (Int.ofNat_le.2 (Nat.le_of_lt w1)) (by decide))]
    exact h


abbrev V3 := Nat × Nat × Nat


end Go.Proofs.Ytbbkhjeohfdcaaa
