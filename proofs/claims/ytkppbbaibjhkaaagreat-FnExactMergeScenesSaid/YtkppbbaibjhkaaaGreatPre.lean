/- What all laws of the seat share: types and the functions of single numbers. -/
import Derived.Test.YtkppbbaibjhkaaaGreatEvLem
import Derived.Test.YtkppbbaibjhkaaaGreatRows
set_option linter.unusedVariables false
set_option linter.unusedSimpArgs false
set_option maxRecDepth 100000
namespace Go.Proofs.YtkppbbaibjhkaaaGreat
open Go.Ev
noncomputable abbrev tyT : TypeId → Ty := elemTy Tryz.prog
abbrev tF : Ty := .float .f32
abbrev tV : Ty := .pair tF (.pair tF tF)
abbrev tB : Ty := .slice (.int .u8)
abbrev tSrc : Ty := .pair tB (.pair (.int .i64) (.int .u64))
theorem mixed : Tryz.prog.follows .mixedOrders = true := by kernel_rfl





abbrev V3 := Nat × Nat × Nat


end Go.Proofs.YtkppbbaibjhkaaaGreat
