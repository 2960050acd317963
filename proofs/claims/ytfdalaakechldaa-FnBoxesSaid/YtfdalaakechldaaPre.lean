/- What all laws of the seat share: types and the functions of single numbers. -/
import Derived.Test.YtfdalaakechldaaEvLem
import Derived.Test.YtfdalaakechldaaRows
set_option linter.unusedVariables false
set_option linter.unusedSimpArgs false
set_option maxRecDepth 100000
namespace Go.Proofs.Ytfdalaakechldaa
open Go.Ev
noncomputable abbrev tyT : TypeId → Ty := elemTy Try.prog
abbrev tF : Ty := .float .f32
abbrev tV : Ty := .pair tF (.pair tF tF)
abbrev tB : Ty := .slice (.int .u8)
abbrev tSrc : Ty := .pair tB (.pair (.int .i64) (.int .u64))
theorem mixed : Try.prog.follows .mixedOrders = true := by kernel_rfl

abbrev s_math_sqrt : Sm := sSqrt
theorem ok_math_sqrt : FnOk Try.prog 39 sSqrt := ok_sqrt Try.func39 (by kernel_rfl) (by kernel_rfl) (by kernel_rfl) (by kernel_rfl)




abbrev V3 := Nat × Nat × Nat


end Go.Proofs.Ytfdalaakechldaa
