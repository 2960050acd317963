/- Merged texts: Sine Dist Dis2 Dis3 Ray ShT ShX B10 Part Kept Jn R8 PrtP FlT Bnd JnD FlV Lin Amb Nor Lgt. -/
import Derived.Test.YtfhpmcdbfebflaaM4
/- Roots, lengths, sines: their walks, beside shapes. -/
set_option linter.unusedVariables false
set_option linter.unusedSimpArgs false
set_option maxRecDepth 100000
namespace Go.Proofs.Ytfhpmcdbfebflaa
open Go.Ev Go.Ev.Fl

abbrev s_math_Float64bits : Sm := sF64bits
theorem ok_math_Float64bits : FnOk Try.prog 176 (sF64bits) := ok_F64bits Try.func176 (by kernel_rfl) (by kernel_rfl) (by kernel_rfl) (by kernel_rfl)
abbrev s_math_Float64frombits : Sm := sF64from
theorem ok_math_Float64frombits : FnOk Try.prog 175 (sF64from) := ok_F64from Try.func175 (by kernel_rfl) (by kernel_rfl) (by kernel_rfl) (by kernel_rfl)
abbrev s_math_archTrunc : Sm := sWhole .zero
theorem ok_math_archTrunc : FnOk Try.prog 177 (sWhole .zero) := ok_whole "math.archTrunc" .zero Try.func177 (by kernel_rfl) (by kernel_rfl) (by kernel_rfl) (by kernel_rfl)
abbrev s_math_RoundToEven : Sm := sEven
theorem ok_math_RoundToEven : FnOk Try.prog 179 (sEven) := ok_even "math.RoundToEven" Try.func179 (by kernel_rfl) (by kernel_rfl) (by kernel_rfl) (by kernel_rfl)

def Wd (x : Nat) : Prop := x < 2 * signOf .f32 ∧ canon .f32 x = x
theorem wd_orNan {o : Option Nat} (h : ∀ r, o = some r → r < 2 * signOf .f32 ∧ nan .f32 r = false) : Wd (orNan .f32 o) := by
  cases o with
  | none => exact ⟨qnan_lt .f32, canon_nan (nan_qnan .f32)⟩
  | some r => exact ⟨(h r rfl).1, canon_not (h r rfl).2⟩
theorem wd_div (x y : Nat) : Wd (fdiv .f32 x y) := wd_orNan fun r h => ⟨width_eq .f32 ▸ Ieee.Format.div_lt _ h, nan_div h⟩
theorem cond_yes {c : Bool} {P Q : Prop} (hc : c = true) (h : P) : cond c P Q := by rw [hc]; exact h
theorem cond_of {c : Bool} {P Q : Prop} (hc : c = false) (h : Q) : cond c P Q := by rw [hc]; exact h

noncomputable def c_math_NaN : Ctx := mkC Try.prog tyT [(175, s_math_Float64frombits)] [] [] 2 (fun _ => none) 0
theorem w_math_NaN (K : V → Heap → Prop) : wpFn c_math_NaN Try.f160 (encAs [] ()) [] K =
 K (.float .f64 (canon FloatKind.f64 9221120237041090561)) [] := by kernel_rfl
noncomputable def s_math_NaN : Sm := semT [] fun x => match x with | _ => .float .f64 9221120237041090560
theorem ok_math_NaN : FnOk Try.prog 160 s_math_NaN := fnOk_typed (fnOk_runC (C := c_math_NaN) rfl mixed (.cons ok_math_Float64frombits .nil) .nil .nil Try.func160 (by kernel_rfl)) fun (x : Unit) wf K h => by
  obtain ⟨⟩ := x
  replace h : K (.float .f64 9221120237041090560) [] := h
  rw [w_math_NaN  K]
  rw [show canon FloatKind.f64 9221120237041090561 = 9221120237041090560 by decide +kernel]
  exact h

theorem abs_bits {x : Nat} (h : x < 18446744073709551616) : Int.toNat (IntKind.wrap IntKind.u64 (↑(BitVec.toNat (BitVec.ofInt 64 (↑x : Int) &&& ~~~BitVec.ofInt 64 9223372036854775808)) : Int)) = x % 9223372036854775808 := by
  have e : BitVec.toNat (BitVec.ofInt 64 (↑x : Int) &&& ~~~BitVec.ofInt 64 9223372036854775808) = x % 9223372036854775808 := by
    rw [BitVec.toNat_and, BitVec.ofInt_natCast, BitVec.toNat_ofNat, Nat.mod_eq_of_lt (show x < 2 ^ 64 from h)]
    exact Nat.and_two_pow_sub_one_eq_mod x 63
  rw [e, wrap_of (by have : IntKind.u64.min = 0 := rfl; omega) (by have : IntKind.u64.max = 18446744073709551615 := rfl; omega)]
  omega
def absW (x : Nat) : Nat := abs64 x
noncomputable def c_math_Abs : Ctx := mkC Try.prog tyT [(176, s_math_Float64bits), (175, s_math_Float64frombits)] [] [] 7 (fun _ => none) 0
theorem w_math_Abs (x : Nat) (K : V → Heap → Prop) : wpFn c_math_Abs Try.f161 (encAs [.cell (.float .f64)] (x, ())) [] K =
 cond (nan FloatKind.f64 x)
 (False)
 (K (.float .f64 (canon FloatKind.f64 (Int.toNat (IntKind.wrap IntKind.u64 (↑(BitVec.toNat (BitVec.ofInt 64 (↑x : Int) &&& ~~~BitVec.ofInt 64 9223372036854775808)) : Int))))) []) := by kernel_rfl
noncomputable def s_math_Abs : Sm := semG [.cell (.float .f64)] (fun x => match x with | (x, _) => !nan .f64 x) fun x => match x with | (x, _) => .float .f64 (absW x)
theorem ok_math_Abs : FnOk Try.prog 161 s_math_Abs := fnOk_typedG (fnOk_runC (C := c_math_Abs) rfl mixed (.cons ok_math_Float64bits (.cons ok_math_Float64frombits .nil)) .nil .nil Try.func161 (by kernel_rfl)) fun (x : ((Nat) × Unit)) wf hg K h => by
  obtain ⟨x, ⟨⟩⟩ := x
  replace hg : (!nan .f64 x) = true := hg
  replace h : K (.float .f64 (absW x)) [] := h
  rw [w_math_Abs x K]
  rw [Bool.not_eq_true'] at hg
  rw [hg]
  have hl : x < 18446744073709551616 := wf.1.1
  rw [abs_bits hl]
  have hn : nan .f64 (x % 9223372036854775808) = false := by
    rw [nan_false] at hg ⊢
    show x % 9223372036854775808 % 9223372036854775808 ≤ _
    rw [Nat.mod_mod]
    exact hg
  rw [canon_not hn]
  exact h

noncomputable def c_math_Trunc : Ctx := mkC Try.prog tyT [(177, s_math_archTrunc)] [] [] 7 (fun _ => none) 0
theorem w_math_Trunc (x : Nat) (K : V → Heap → Prop) : wpFn c_math_Trunc Try.f162 (encAs [.cell (.float .f64)] (x, ())) [] K =
 cond (nan FloatKind.f64 x)
 (False)
 (K (.float .f64 (fwhole Ieee.Toward.zero x)) []) := by kernel_rfl
noncomputable def s_math_Trunc : Sm := semG [.cell (.float .f64)] (fun x => match x with | (x, _) => !nan .f64 x) fun x => match x with | (x, _) => .float .f64 (fwhole .zero x)
theorem ok_math_Trunc : FnOk Try.prog 162 s_math_Trunc := fnOk_typedG (fnOk_runC (C := c_math_Trunc) rfl mixed (.cons ok_math_archTrunc .nil) .nil .nil Try.func162 (by kernel_rfl)) fun (x : ((Nat) × Unit)) wf hg K h => by
  obtain ⟨x, ⟨⟩⟩ := x
  replace hg : (!nan .f64 x) = true := hg
  replace h : K (.float .f64 (fwhole .zero x)) [] := h
  rw [w_math_Trunc x K]
  cases e : nan .f64 x <;> rw [e] at hg
  · exact h
  · cases hg

theorem finN_fin {x : Nat} (hl : x < 2 * signOf .f32) : finN x = fin .f32 x := sub_self hl
def sineF (x : Nat) : Nat := sineN x
def sineOk (x : Nat) : Bool := sinOk x
noncomputable def a_impl_SineTurns : Nat → Option Ann := fun n => bif Nat.beq n 19 then some ⟨[5,6,7,8,9],0,false⟩ else none
noncomputable def c_impl_SineTurns : Ctx := mkC Try.prog tyT [(78, s_impl_IsFinite), (160, s_math_NaN), (161, s_math_Abs), (162, s_math_Trunc)] [] [] 72 a_impl_SineTurns 0
noncomputable def fr_impl_SineTurns_19 (f z u p : Nat) (b' : Bool) (i : Int) : Fr := [(5, .bool b'), (6, .float .f64 z), (7, .float .f64 u), (8, .float .f64 p), (9, .int .i64 i)]
theorem r_impl_SineTurns_19 (f z u p : Nat) (b' : Bool) (i : Int) (Kn : Fr → Heap → Prop) (K : V → Heap → Prop) : round c_impl_SineTurns ⟨[5,6,7,8,9],0,false⟩ (lb c_impl_SineTurns 19 Try.f136) (fr_impl_SineTurns_19 f z u p b' i) [] Kn (lk c_impl_SineTurns 19 Try.f136 [] K) =
 cond (decide (i ≥ 1))
 (Kn [(5, (.bool (b'))), (6, (.float .f64 (z))), (7, (.float .f64 (u))), (8, (.float .f64 (fsub FloatKind.f64 4607182418800017408 (fdiv FloatKind.f64 (fmul FloatKind.f64 u p) (FloatKind.nearest FloatKind.f64 (IntKind.wrap IntKind.i64 (IntKind.wrap IntKind.i64 (2 * i) * IntKind.wrap IntKind.i64 (IntKind.wrap IntKind.i64 (2 * i) + 1)))))))), (9, (.int .i64 (IntKind.wrap IntKind.i64 (i - 1))))] [])
 (cond (b')
 (cond (ovf (fneg FloatKind.f64 (fmul FloatKind.f64 z p)))
 (K .undef [])
 (K (.float .f32 (narrow (fneg FloatKind.f64 (fmul FloatKind.f64 z p)))) []))
 (cond (ovf (fmul FloatKind.f64 z p))
 (K .undef [])
 (K (.float .f32 (narrow (fmul FloatKind.f64 z p))) []))) := by kernel_rfl
theorem w_impl_SineTurns (x : Nat) (K : V → Heap → Prop) : wpFn c_impl_SineTurns Try.f136 (encAs [.cell tF] (x, ())) [] K =
 cond (!finN x)
 (cond (ovf 9221120237041090560)
 (K .undef [])
 (K (.float .f32 (narrow 9221120237041090560)) []))
 (cond (!nan FloatKind.f64 (widen x))
 (cond (fge FloatKind.f64 (absW (widen x)) 4841369599423283200)
 (K (.float .f32 0) [])
 (cond (!nan FloatKind.f64 (widen x))
 (cond (!feq FloatKind.f64 (fwhole Ieee.Toward.zero (widen x)) 0)
 (cond (flt FloatKind.f64 (fsub FloatKind.f64 (widen x) (fwhole Ieee.Toward.zero (widen x))) 0)
 (cond (fge FloatKind.f64 (fadd FloatKind.f64 (fsub FloatKind.f64 (widen x) (fwhole Ieee.Toward.zero (widen x))) 4607182418800017408) 4602678819172646912)
 (cond (fgt FloatKind.f64 (fsub FloatKind.f64 (fadd FloatKind.f64 (fsub FloatKind.f64 (widen x) (fwhole Ieee.Toward.zero (widen x))) 4607182418800017408) 4602678819172646912) 4598175219545276416)
 (LoopE c_impl_SineTurns ⟨[5, 6, 7, 8, 9], 0, false⟩ (lb c_impl_SineTurns 19 Try.f136) [(5, (.bool (fge FloatKind.f64 (fadd FloatKind.f64 (fsub FloatKind.f64 (widen x) (fwhole Ieee.Toward.zero (widen x))) 4607182418800017408) 4602678819172646912))), (6, (.float .f64 (fmul FloatKind.f64 (fsub FloatKind.f64 4602678819172646912 (fsub FloatKind.f64 (fadd FloatKind.f64 (fsub FloatKind.f64 (widen x) (fwhole Ieee.Toward.zero (widen x))) 4607182418800017408) 4602678819172646912)) 4618760256179416344))), (7, (.float .f64 (fmul FloatKind.f64 (fmul FloatKind.f64 (fsub FloatKind.f64 4602678819172646912 (fsub FloatKind.f64 (fadd FloatKind.f64 (fsub FloatKind.f64 (widen x) (fwhole Ieee.Toward.zero (widen x))) 4607182418800017408) 4602678819172646912)) 4618760256179416344) (fmul FloatKind.f64 (fsub FloatKind.f64 4602678819172646912 (fsub FloatKind.f64 (fadd FloatKind.f64 (fsub FloatKind.f64 (widen x) (fwhole Ieee.Toward.zero (widen x))) 4607182418800017408) 4602678819172646912)) 4618760256179416344)))), (8, (.float .f64 4607182418800017408)), (9, (.int .i64 8))] [] (lk c_impl_SineTurns 19 Try.f136 [] K))
 (LoopE c_impl_SineTurns ⟨[5, 6, 7, 8, 9], 0, false⟩ (lb c_impl_SineTurns 19 Try.f136) [(5, (.bool (fge FloatKind.f64 (fadd FloatKind.f64 (fsub FloatKind.f64 (widen x) (fwhole Ieee.Toward.zero (widen x))) 4607182418800017408) 4602678819172646912))), (6, (.float .f64 (fmul FloatKind.f64 (fsub FloatKind.f64 (fadd FloatKind.f64 (fsub FloatKind.f64 (widen x) (fwhole Ieee.Toward.zero (widen x))) 4607182418800017408) 4602678819172646912) 4618760256179416344))), (7, (.float .f64 (fmul FloatKind.f64 (fmul FloatKind.f64 (fsub FloatKind.f64 (fadd FloatKind.f64 (fsub FloatKind.f64 (widen x) (fwhole Ieee.Toward.zero (widen x))) 4607182418800017408) 4602678819172646912) 4618760256179416344) (fmul FloatKind.f64 (fsub FloatKind.f64 (fadd FloatKind.f64 (fsub FloatKind.f64 (widen x) (fwhole Ieee.Toward.zero (widen x))) 4607182418800017408) 4602678819172646912) 4618760256179416344)))), (8, (.float .f64 4607182418800017408)), (9, (.int .i64 8))] [] (lk c_impl_SineTurns 19 Try.f136 [] K)))
 (cond (fgt FloatKind.f64 (fadd FloatKind.f64 (fsub FloatKind.f64 (widen x) (fwhole Ieee.Toward.zero (widen x))) 4607182418800017408) 4598175219545276416)
 (LoopE c_impl_SineTurns ⟨[5, 6, 7, 8, 9], 0, false⟩ (lb c_impl_SineTurns 19 Try.f136) [(5, (.bool (fge FloatKind.f64 (fadd FloatKind.f64 (fsub FloatKind.f64 (widen x) (fwhole Ieee.Toward.zero (widen x))) 4607182418800017408) 4602678819172646912))), (6, (.float .f64 (fmul FloatKind.f64 (fsub FloatKind.f64 4602678819172646912 (fadd FloatKind.f64 (fsub FloatKind.f64 (widen x) (fwhole Ieee.Toward.zero (widen x))) 4607182418800017408)) 4618760256179416344))), (7, (.float .f64 (fmul FloatKind.f64 (fmul FloatKind.f64 (fsub FloatKind.f64 4602678819172646912 (fadd FloatKind.f64 (fsub FloatKind.f64 (widen x) (fwhole Ieee.Toward.zero (widen x))) 4607182418800017408)) 4618760256179416344) (fmul FloatKind.f64 (fsub FloatKind.f64 4602678819172646912 (fadd FloatKind.f64 (fsub FloatKind.f64 (widen x) (fwhole Ieee.Toward.zero (widen x))) 4607182418800017408)) 4618760256179416344)))), (8, (.float .f64 4607182418800017408)), (9, (.int .i64 8))] [] (lk c_impl_SineTurns 19 Try.f136 [] K))
 (LoopE c_impl_SineTurns ⟨[5, 6, 7, 8, 9], 0, false⟩ (lb c_impl_SineTurns 19 Try.f136) [(5, (.bool (fge FloatKind.f64 (fadd FloatKind.f64 (fsub FloatKind.f64 (widen x) (fwhole Ieee.Toward.zero (widen x))) 4607182418800017408) 4602678819172646912))), (6, (.float .f64 (fmul FloatKind.f64 (fadd FloatKind.f64 (fsub FloatKind.f64 (widen x) (fwhole Ieee.Toward.zero (widen x))) 4607182418800017408) 4618760256179416344))), (7, (.float .f64 (fmul FloatKind.f64 (fmul FloatKind.f64 (fadd FloatKind.f64 (fsub FloatKind.f64 (widen x) (fwhole Ieee.Toward.zero (widen x))) 4607182418800017408) 4618760256179416344) (fmul FloatKind.f64 (fadd FloatKind.f64 (fsub FloatKind.f64 (widen x) (fwhole Ieee.Toward.zero (widen x))) 4607182418800017408) 4618760256179416344)))), (8, (.float .f64 4607182418800017408)), (9, (.int .i64 8))] [] (lk c_impl_SineTurns 19 Try.f136 [] K))))
 (cond (fge FloatKind.f64 (fsub FloatKind.f64 (widen x) (fwhole Ieee.Toward.zero (widen x))) 4602678819172646912)
 (cond (fgt FloatKind.f64 (fsub FloatKind.f64 (fsub FloatKind.f64 (widen x) (fwhole Ieee.Toward.zero (widen x))) 4602678819172646912) 4598175219545276416)
 (LoopE c_impl_SineTurns ⟨[5, 6, 7, 8, 9], 0, false⟩ (lb c_impl_SineTurns 19 Try.f136) [(5, (.bool (fge FloatKind.f64 (fsub FloatKind.f64 (widen x) (fwhole Ieee.Toward.zero (widen x))) 4602678819172646912))), (6, (.float .f64 (fmul FloatKind.f64 (fsub FloatKind.f64 4602678819172646912 (fsub FloatKind.f64 (fsub FloatKind.f64 (widen x) (fwhole Ieee.Toward.zero (widen x))) 4602678819172646912)) 4618760256179416344))), (7, (.float .f64 (fmul FloatKind.f64 (fmul FloatKind.f64 (fsub FloatKind.f64 4602678819172646912 (fsub FloatKind.f64 (fsub FloatKind.f64 (widen x) (fwhole Ieee.Toward.zero (widen x))) 4602678819172646912)) 4618760256179416344) (fmul FloatKind.f64 (fsub FloatKind.f64 4602678819172646912 (fsub FloatKind.f64 (fsub FloatKind.f64 (widen x) (fwhole Ieee.Toward.zero (widen x))) 4602678819172646912)) 4618760256179416344)))), (8, (.float .f64 4607182418800017408)), (9, (.int .i64 8))] [] (lk c_impl_SineTurns 19 Try.f136 [] K))
 (LoopE c_impl_SineTurns ⟨[5, 6, 7, 8, 9], 0, false⟩ (lb c_impl_SineTurns 19 Try.f136) [(5, (.bool (fge FloatKind.f64 (fsub FloatKind.f64 (widen x) (fwhole Ieee.Toward.zero (widen x))) 4602678819172646912))), (6, (.float .f64 (fmul FloatKind.f64 (fsub FloatKind.f64 (fsub FloatKind.f64 (widen x) (fwhole Ieee.Toward.zero (widen x))) 4602678819172646912) 4618760256179416344))), (7, (.float .f64 (fmul FloatKind.f64 (fmul FloatKind.f64 (fsub FloatKind.f64 (fsub FloatKind.f64 (widen x) (fwhole Ieee.Toward.zero (widen x))) 4602678819172646912) 4618760256179416344) (fmul FloatKind.f64 (fsub FloatKind.f64 (fsub FloatKind.f64 (widen x) (fwhole Ieee.Toward.zero (widen x))) 4602678819172646912) 4618760256179416344)))), (8, (.float .f64 4607182418800017408)), (9, (.int .i64 8))] [] (lk c_impl_SineTurns 19 Try.f136 [] K)))
 (cond (fgt FloatKind.f64 (fsub FloatKind.f64 (widen x) (fwhole Ieee.Toward.zero (widen x))) 4598175219545276416)
 (LoopE c_impl_SineTurns ⟨[5, 6, 7, 8, 9], 0, false⟩ (lb c_impl_SineTurns 19 Try.f136) [(5, (.bool (fge FloatKind.f64 (fsub FloatKind.f64 (widen x) (fwhole Ieee.Toward.zero (widen x))) 4602678819172646912))), (6, (.float .f64 (fmul FloatKind.f64 (fsub FloatKind.f64 4602678819172646912 (fsub FloatKind.f64 (widen x) (fwhole Ieee.Toward.zero (widen x)))) 4618760256179416344))), (7, (.float .f64 (fmul FloatKind.f64 (fmul FloatKind.f64 (fsub FloatKind.f64 4602678819172646912 (fsub FloatKind.f64 (widen x) (fwhole Ieee.Toward.zero (widen x)))) 4618760256179416344) (fmul FloatKind.f64 (fsub FloatKind.f64 4602678819172646912 (fsub FloatKind.f64 (widen x) (fwhole Ieee.Toward.zero (widen x)))) 4618760256179416344)))), (8, (.float .f64 4607182418800017408)), (9, (.int .i64 8))] [] (lk c_impl_SineTurns 19 Try.f136 [] K))
 (LoopE c_impl_SineTurns ⟨[5, 6, 7, 8, 9], 0, false⟩ (lb c_impl_SineTurns 19 Try.f136) [(5, (.bool (fge FloatKind.f64 (fsub FloatKind.f64 (widen x) (fwhole Ieee.Toward.zero (widen x))) 4602678819172646912))), (6, (.float .f64 (fmul FloatKind.f64 (fsub FloatKind.f64 (widen x) (fwhole Ieee.Toward.zero (widen x))) 4618760256179416344))), (7, (.float .f64 (fmul FloatKind.f64 (fmul FloatKind.f64 (fsub FloatKind.f64 (widen x) (fwhole Ieee.Toward.zero (widen x))) 4618760256179416344) (fmul FloatKind.f64 (fsub FloatKind.f64 (widen x) (fwhole Ieee.Toward.zero (widen x))) 4618760256179416344)))), (8, (.float .f64 4607182418800017408)), (9, (.int .i64 8))] [] (lk c_impl_SineTurns 19 Try.f136 [] K)))))
 (cond (flt FloatKind.f64 (widen x) 0)
 (cond (fge FloatKind.f64 (fadd FloatKind.f64 (widen x) 4607182418800017408) 4602678819172646912)
 (cond (fgt FloatKind.f64 (fsub FloatKind.f64 (fadd FloatKind.f64 (widen x) 4607182418800017408) 4602678819172646912) 4598175219545276416)
 (LoopE c_impl_SineTurns ⟨[5, 6, 7, 8, 9], 0, false⟩ (lb c_impl_SineTurns 19 Try.f136) [(5, (.bool (fge FloatKind.f64 (fadd FloatKind.f64 (widen x) 4607182418800017408) 4602678819172646912))), (6, (.float .f64 (fmul FloatKind.f64 (fsub FloatKind.f64 4602678819172646912 (fsub FloatKind.f64 (fadd FloatKind.f64 (widen x) 4607182418800017408) 4602678819172646912)) 4618760256179416344))), (7, (.float .f64 (fmul FloatKind.f64 (fmul FloatKind.f64 (fsub FloatKind.f64 4602678819172646912 (fsub FloatKind.f64 (fadd FloatKind.f64 (widen x) 4607182418800017408) 4602678819172646912)) 4618760256179416344) (fmul FloatKind.f64 (fsub FloatKind.f64 4602678819172646912 (fsub FloatKind.f64 (fadd FloatKind.f64 (widen x) 4607182418800017408) 4602678819172646912)) 4618760256179416344)))), (8, (.float .f64 4607182418800017408)), (9, (.int .i64 8))] [] (lk c_impl_SineTurns 19 Try.f136 [] K))
 (LoopE c_impl_SineTurns ⟨[5, 6, 7, 8, 9], 0, false⟩ (lb c_impl_SineTurns 19 Try.f136) [(5, (.bool (fge FloatKind.f64 (fadd FloatKind.f64 (widen x) 4607182418800017408) 4602678819172646912))), (6, (.float .f64 (fmul FloatKind.f64 (fsub FloatKind.f64 (fadd FloatKind.f64 (widen x) 4607182418800017408) 4602678819172646912) 4618760256179416344))), (7, (.float .f64 (fmul FloatKind.f64 (fmul FloatKind.f64 (fsub FloatKind.f64 (fadd FloatKind.f64 (widen x) 4607182418800017408) 4602678819172646912) 4618760256179416344) (fmul FloatKind.f64 (fsub FloatKind.f64 (fadd FloatKind.f64 (widen x) 4607182418800017408) 4602678819172646912) 4618760256179416344)))), (8, (.float .f64 4607182418800017408)), (9, (.int .i64 8))] [] (lk c_impl_SineTurns 19 Try.f136 [] K)))
 (cond (fgt FloatKind.f64 (fadd FloatKind.f64 (widen x) 4607182418800017408) 4598175219545276416)
 (LoopE c_impl_SineTurns ⟨[5, 6, 7, 8, 9], 0, false⟩ (lb c_impl_SineTurns 19 Try.f136) [(5, (.bool (fge FloatKind.f64 (fadd FloatKind.f64 (widen x) 4607182418800017408) 4602678819172646912))), (6, (.float .f64 (fmul FloatKind.f64 (fsub FloatKind.f64 4602678819172646912 (fadd FloatKind.f64 (widen x) 4607182418800017408)) 4618760256179416344))), (7, (.float .f64 (fmul FloatKind.f64 (fmul FloatKind.f64 (fsub FloatKind.f64 4602678819172646912 (fadd FloatKind.f64 (widen x) 4607182418800017408)) 4618760256179416344) (fmul FloatKind.f64 (fsub FloatKind.f64 4602678819172646912 (fadd FloatKind.f64 (widen x) 4607182418800017408)) 4618760256179416344)))), (8, (.float .f64 4607182418800017408)), (9, (.int .i64 8))] [] (lk c_impl_SineTurns 19 Try.f136 [] K))
 (LoopE c_impl_SineTurns ⟨[5, 6, 7, 8, 9], 0, false⟩ (lb c_impl_SineTurns 19 Try.f136) [(5, (.bool (fge FloatKind.f64 (fadd FloatKind.f64 (widen x) 4607182418800017408) 4602678819172646912))), (6, (.float .f64 (fmul FloatKind.f64 (fadd FloatKind.f64 (widen x) 4607182418800017408) 4618760256179416344))), (7, (.float .f64 (fmul FloatKind.f64 (fmul FloatKind.f64 (fadd FloatKind.f64 (widen x) 4607182418800017408) 4618760256179416344) (fmul FloatKind.f64 (fadd FloatKind.f64 (widen x) 4607182418800017408) 4618760256179416344)))), (8, (.float .f64 4607182418800017408)), (9, (.int .i64 8))] [] (lk c_impl_SineTurns 19 Try.f136 [] K))))
 (cond (fge FloatKind.f64 (widen x) 4602678819172646912)
 (cond (fgt FloatKind.f64 (fsub FloatKind.f64 (widen x) 4602678819172646912) 4598175219545276416)
 (LoopE c_impl_SineTurns ⟨[5, 6, 7, 8, 9], 0, false⟩ (lb c_impl_SineTurns 19 Try.f136) [(5, (.bool (fge FloatKind.f64 (widen x) 4602678819172646912))), (6, (.float .f64 (fmul FloatKind.f64 (fsub FloatKind.f64 4602678819172646912 (fsub FloatKind.f64 (widen x) 4602678819172646912)) 4618760256179416344))), (7, (.float .f64 (fmul FloatKind.f64 (fmul FloatKind.f64 (fsub FloatKind.f64 4602678819172646912 (fsub FloatKind.f64 (widen x) 4602678819172646912)) 4618760256179416344) (fmul FloatKind.f64 (fsub FloatKind.f64 4602678819172646912 (fsub FloatKind.f64 (widen x) 4602678819172646912)) 4618760256179416344)))), (8, (.float .f64 4607182418800017408)), (9, (.int .i64 8))] [] (lk c_impl_SineTurns 19 Try.f136 [] K))
 (LoopE c_impl_SineTurns ⟨[5, 6, 7, 8, 9], 0, false⟩ (lb c_impl_SineTurns 19 Try.f136) [(5, (.bool (fge FloatKind.f64 (widen x) 4602678819172646912))), (6, (.float .f64 (fmul FloatKind.f64 (fsub FloatKind.f64 (widen x) 4602678819172646912) 4618760256179416344))), (7, (.float .f64 (fmul FloatKind.f64 (fmul FloatKind.f64 (fsub FloatKind.f64 (widen x) 4602678819172646912) 4618760256179416344) (fmul FloatKind.f64 (fsub FloatKind.f64 (widen x) 4602678819172646912) 4618760256179416344)))), (8, (.float .f64 4607182418800017408)), (9, (.int .i64 8))] [] (lk c_impl_SineTurns 19 Try.f136 [] K)))
 (cond (fgt FloatKind.f64 (widen x) 4598175219545276416)
 (LoopE c_impl_SineTurns ⟨[5, 6, 7, 8, 9], 0, false⟩ (lb c_impl_SineTurns 19 Try.f136) [(5, (.bool (fge FloatKind.f64 (widen x) 4602678819172646912))), (6, (.float .f64 (fmul FloatKind.f64 (fsub FloatKind.f64 4602678819172646912 (widen x)) 4618760256179416344))), (7, (.float .f64 (fmul FloatKind.f64 (fmul FloatKind.f64 (fsub FloatKind.f64 4602678819172646912 (widen x)) 4618760256179416344) (fmul FloatKind.f64 (fsub FloatKind.f64 4602678819172646912 (widen x)) 4618760256179416344)))), (8, (.float .f64 4607182418800017408)), (9, (.int .i64 8))] [] (lk c_impl_SineTurns 19 Try.f136 [] K))
 (LoopE c_impl_SineTurns ⟨[5, 6, 7, 8, 9], 0, false⟩ (lb c_impl_SineTurns 19 Try.f136) [(5, (.bool (fge FloatKind.f64 (widen x) 4602678819172646912))), (6, (.float .f64 (fmul FloatKind.f64 (widen x) 4618760256179416344))), (7, (.float .f64 (fmul FloatKind.f64 (fmul FloatKind.f64 (widen x) 4618760256179416344) (fmul FloatKind.f64 (widen x) 4618760256179416344)))), (8, (.float .f64 4607182418800017408)), (9, (.int .i64 8))] [] (lk c_impl_SineTurns 19 Try.f136 [] K))))))
 (False)))
 (False)) := by kernel_rfl
noncomputable def s_impl_SineTurns : Sm := semG [.cell tF] (fun x => match x with | (x, _) => sineOk x) fun x => match x with | (x, _) => .float .f32 (sineF x)
theorem ok_impl_SineTurns : FnOk Try.prog 136 s_impl_SineTurns := fnOk_typedG (fnOk_runC (C := c_impl_SineTurns) rfl mixed (.cons ok_impl_IsFinite (.cons ok_math_NaN (.cons ok_math_Abs (.cons ok_math_Trunc .nil)))) .nil .nil Try.func136 (by kernel_rfl)) fun (x : ((Nat) × Unit)) wf hg K h => by
  obtain ⟨x, ⟨⟩⟩ := x
  replace hg : (sineOk x) = true := hg
  replace h : K (.float .f32 (sineF x)) [] := h
  rw [w_impl_SineTurns x K]
  obtain ⟨g1, g2, g3, g4, hov⟩ := sinOk_trunc hg wf.1.1
  have g3 : fge .f64 (absW (widen x)) 4841369599423283200 = false := g3
  have g4 : finN x = true := by rw [finN_fin wf.1.1]; exact g4
  simp only [g1, g2, g3, g4, Bool.not_true, Bool.not_false, cond_true, cond_false]
  replace h : K (.float .f32 (narrow (sine64 x))) [] := h
  have loop : ∀ (w : Nat) (tb : Bool), (sine64 x = bif tb then fneg .f64 (sinO w) else sinO w) → LoopE c_impl_SineTurns ⟨[5, 6, 7, 8, 9], 0, false⟩ (lb c_impl_SineTurns 19 Try.f136) (fr_impl_SineTurns_19 0 (fmul .f64 w 4618760256179416344) (fmul .f64 (fmul .f64 w 4618760256179416344) (fmul .f64 w 4618760256179416344)) 4607182418800017408 tb 8) [] (lk c_impl_SineTurns 19 Try.f136 [] K) := by
    intro w tb hs
    rw [hs] at h hov
    generalize hz : fmul .f64 w 4618760256179416344 = z
    refine loop_run (σ := Nat) (fun j => fr_impl_SineTurns_19 0 z (fmul .f64 z z) (sinP (fmul .f64 z z) j) tb (8 - (j : Int))) (fun _ => []) (fun j => j ≤ 8) (fun j => 8 - j) ?_ 0 (Nat.zero_le _)
    intro j hj Kn hk
    rw [r_impl_SineTurns_19 0 z (fmul .f64 z z) (sinP (fmul .f64 z z) j) tb (8 - (j : Int)) Kn K]
    by_cases hlt : j < 8
    · have b1 : 2 * (8 - (j : Int)) * (2 * (8 - (j : Int)) + 1) ≤ 16 * 17 := Int.mul_le_mul (by omega) (by omega) (by omega) (by omega)
      have b2 : 0 ≤ 2 * (8 - (j : Int)) * (2 * (8 - (j : Int)) + 1) := Int.mul_nonneg (by omega) (by omega)
      rw [d_t (show (8 : Int) - (j : Int) ≥ 1 by omega), i64_of (n := 2 * (8 - (j : Int))) (by omega) (by omega), i64_of (n := 2 * (8 - (j : Int)) + 1) (by omega) (by omega), i64_of (n := 2 * (8 - (j : Int)) * (2 * (8 - (j : Int)) + 1)) (by omega) (by omega), i64_of (n := 8 - (j : Int) - 1) (by omega) (by omega)]
      have := hk (j + 1) hlt (by omega)
      rw [show (8 : Int) - ((j + 1 : Nat) : Int) = 8 - (j : Int) - 1 by omega] at this
      exact this
    · have : j = 8 := by omega
      subst this
      rw [d_f (show ¬ (8 : Int) - ((8 : Nat) : Int) ≥ 1 by decide)]
      subst hz
      cases tb <;> simp only [cond_true, cond_false] at hov h ⊢ <;> exact cond_of hov h
  cases c1 : flt .f64 (widen x) 0
  · cases c2 : fge .f64 (widen x) 4602678819172646912
    · cases c3 : fgt .f64 (widen x) 4598175219545276416 <;> exact loop _ _ (by unfold sine64; simp only [c1, c2, c3, cond_true, cond_false])
    · cases c3 : fgt .f64 (fsub .f64 (widen x) 4602678819172646912) 4598175219545276416 <;> exact loop _ _ (by unfold sine64; simp only [c1, c2, c3, cond_true, cond_false])
  · cases c2 : fge .f64 (fadd .f64 (widen x) 4607182418800017408) 4602678819172646912
    · cases c3 : fgt .f64 (fadd .f64 (widen x) 4607182418800017408) 4598175219545276416 <;> exact loop _ _ (by unfold sine64; simp only [c1, c2, c3, cond_true, cond_false])
    · cases c3 : fgt .f64 (fsub .f64 (fadd .f64 (widen x) 4607182418800017408) 4602678819172646912) 4598175219545276416 <;> exact loop _ _ (by unfold sine64; simp only [c1, c2, c3, cond_true, cond_false])

def rintV (x : Nat) : Nat := narrow (fwhole .even (widen x))
noncomputable def c_impl_nearest : Ctx := mkC Try.prog tyT [(179, s_math_RoundToEven)] [] [] 7 (fun _ => none) 0
theorem w_impl_nearest (x : Nat) (K : V → Heap → Prop) : wpFn c_impl_nearest Try.f163 (encAs [.cell tF] (x, ())) [] K =
 cond (ovf (fwhole Ieee.Toward.even (widen x)))
 (K .undef [])
 (K (.float .f32 (narrow (fwhole Ieee.Toward.even (widen x)))) []) := by kernel_rfl
noncomputable def s_impl_nearest : Sm := semT [.cell tF] fun x => match x with | (x, _) => .float .f32 (rintV x)
theorem ok_impl_nearest : FnOk Try.prog 163 s_impl_nearest := fnOk_typed (fnOk_runC (C := c_impl_nearest) rfl mixed (.cons ok_math_RoundToEven .nil) .nil .nil Try.func163 (by kernel_rfl)) fun (x : ((Nat) × Unit)) wf K h => by
  obtain ⟨x, ⟨⟩⟩ := x
  replace h : K (.float .f32 (rintV x)) [] := h
  rw [w_impl_nearest x K]
  exact cond_of (even_ovf wf.1.1 wf.1.2) h

def addV (a b : V3) : V3 := (fadd .f32 a.1 b.1, fadd .f32 a.2.1 b.2.1, fadd .f32 a.2.2 b.2.2)
def subV (a b : V3) : V3 := (fsub .f32 a.1 b.1, fsub .f32 a.2.1 b.2.1, fsub .f32 a.2.2 b.2.2)
def scaleV (a : V3) (n : Nat) : V3 := (fmul .f32 a.1 n, fmul .f32 a.2.1 n, fmul .f32 a.2.2 n)
def innerV (a b : V3) : Nat := fadd .f32 (fadd .f32 (fmul .f32 a.1 b.1) (fmul .f32 a.2.1 b.2.1)) (fmul .f32 a.2.2 b.2.2)
def rootV (x : Nat) : Nat := rootN x
def longV (a : V3) : Nat := rootV (innerV a a)
noncomputable def c_impl_AddVectors : Ctx := mkC Try.prog tyT [] [] [] 21 (fun _ => none) 0
theorem w_impl_AddVectors (a b : V3) (K : V → Heap → Prop) : wpFn c_impl_AddVectors Try.f109 (encAs [.agg tV, .agg tV] (a, b, ())) [] K =
 K (.agg [(.float .f32 (fadd FloatKind.f32 (Prod.fst a) (Prod.fst b))), (.float .f32 (fadd FloatKind.f32 (Prod.fst (Prod.snd a)) (Prod.fst (Prod.snd b)))), (.float .f32 (fadd FloatKind.f32 (Prod.snd (Prod.snd a)) (Prod.snd (Prod.snd b))))]) [] := by kernel_rfl
noncomputable def s_impl_AddVectors : Sm := semT [.agg tV, .agg tV] fun x => match x with | (a, b, _) => .agg (enc tV (addV a b))
theorem ok_impl_AddVectors : FnOk Try.prog 109 s_impl_AddVectors := fnOk_typed (fnOk_runC (C := c_impl_AddVectors) rfl mixed .nil .nil .nil Try.func109 (by kernel_rfl)) fun (x : ((V3) × (V3) × Unit)) wf K h => by
  obtain ⟨a, b, ⟨⟩⟩ := x
  replace h : K (.agg (enc tV (addV a b))) [] := h
  rw [w_impl_AddVectors a b K]
  exact h

noncomputable def c_impl_LessVectors : Ctx := mkC Try.prog tyT [] [] [] 21 (fun _ => none) 0
theorem w_impl_LessVectors (a b : V3) (K : V → Heap → Prop) : wpFn c_impl_LessVectors Try.f39 (encAs [.agg tV, .agg tV] (a, b, ())) [] K =
 K (.agg [(.float .f32 (fsub FloatKind.f32 (Prod.fst a) (Prod.fst b))), (.float .f32 (fsub FloatKind.f32 (Prod.fst (Prod.snd a)) (Prod.fst (Prod.snd b)))), (.float .f32 (fsub FloatKind.f32 (Prod.snd (Prod.snd a)) (Prod.snd (Prod.snd b))))]) [] := by kernel_rfl
noncomputable def s_impl_LessVectors : Sm := semT [.agg tV, .agg tV] fun x => match x with | (a, b, _) => .agg (enc tV (subV a b))
theorem ok_impl_LessVectors : FnOk Try.prog 39 s_impl_LessVectors := fnOk_typed (fnOk_runC (C := c_impl_LessVectors) rfl mixed .nil .nil .nil Try.func39 (by kernel_rfl)) fun (x : ((V3) × (V3) × Unit)) wf K h => by
  obtain ⟨a, b, ⟨⟩⟩ := x
  replace h : K (.agg (enc tV (subV a b))) [] := h
  rw [w_impl_LessVectors a b K]
  exact h

noncomputable def c_impl_ScaleVector : Ctx := mkC Try.prog tyT [] [] [] 18 (fun _ => none) 0
theorem w_impl_ScaleVector (a : V3) (n : Nat) (K : V → Heap → Prop) : wpFn c_impl_ScaleVector Try.f110 (encAs [.agg tV, .cell tF] (a, n, ())) [] K =
 K (.agg [(.float .f32 (fmul FloatKind.f32 (Prod.fst a) n)), (.float .f32 (fmul FloatKind.f32 (Prod.fst (Prod.snd a)) n)), (.float .f32 (fmul FloatKind.f32 (Prod.snd (Prod.snd a)) n))]) [] := by kernel_rfl
noncomputable def s_impl_ScaleVector : Sm := semT [.agg tV, .cell tF] fun x => match x with | (a, n, _) => .agg (enc tV (scaleV a n))
theorem ok_impl_ScaleVector : FnOk Try.prog 110 s_impl_ScaleVector := fnOk_typed (fnOk_runC (C := c_impl_ScaleVector) rfl mixed .nil .nil .nil Try.func110 (by kernel_rfl)) fun (x : ((V3) × (Nat) × Unit)) wf K h => by
  obtain ⟨a, n, ⟨⟩⟩ := x
  replace h : K (.agg (enc tV (scaleV a n))) [] := h
  rw [w_impl_ScaleVector a n K]
  exact h

noncomputable def c_impl_InnerOf : Ctx := mkC Try.prog tyT [] [] [] 22 (fun _ => none) 0
theorem w_impl_InnerOf (a b : V3) (K : V → Heap → Prop) : wpFn c_impl_InnerOf Try.f123 (encAs [.agg tV, .agg tV] (a, b, ())) [] K =
 K (.float .f32 (fadd FloatKind.f32 (fadd FloatKind.f32 (fmul FloatKind.f32 (Prod.fst a) (Prod.fst b)) (fmul FloatKind.f32 (Prod.fst (Prod.snd a)) (Prod.fst (Prod.snd b)))) (fmul FloatKind.f32 (Prod.snd (Prod.snd a)) (Prod.snd (Prod.snd b))))) [] := by kernel_rfl
noncomputable def s_impl_InnerOf : Sm := semT [.agg tV, .agg tV] fun x => match x with | (a, b, _) => .float .f32 (innerV a b)
theorem ok_impl_InnerOf : FnOk Try.prog 123 s_impl_InnerOf := fnOk_typed (fnOk_runC (C := c_impl_InnerOf) rfl mixed .nil .nil .nil Try.func123 (by kernel_rfl)) fun (x : ((V3) × (V3) × Unit)) wf K h => by
  obtain ⟨a, b, ⟨⟩⟩ := x
  replace h : K (.float .f32 (innerV a b)) [] := h
  rw [w_impl_InnerOf a b K]
  exact h

noncomputable def c_math_Sqrt : Ctx := mkC Try.prog tyT [(172, s_math_sqrt)] [] [] 5 (fun _ => none) 0
theorem w_math_Sqrt (x : Nat) (K : V → Heap → Prop) : wpFn c_math_Sqrt Try.f154 (encAs [.cell (.float .f64)] (x, ())) [] K =
 K (.float .f64 (fsqrt FloatKind.f64 x)) [] := by kernel_rfl
noncomputable def s_math_Sqrt : Sm := semT [.cell (.float .f64)] fun x => match x with | (x, _) => .float .f64 (fsqrt .f64 x)
theorem ok_math_Sqrt : FnOk Try.prog 154 s_math_Sqrt := fnOk_typed (fnOk_runC (C := c_math_Sqrt) rfl mixed (.cons ok_math_sqrt .nil) .nil .nil Try.func154 (by kernel_rfl)) fun (x : ((Nat) × Unit)) wf K h => by
  obtain ⟨x, ⟨⟩⟩ := x
  replace h : K (.float .f64 (fsqrt .f64 x)) [] := h
  rw [w_math_Sqrt x K]
  exact h

noncomputable def c_impl_RootNumber : Ctx := mkC Try.prog tyT [(154, s_math_Sqrt)] [] [] 7 (fun _ => none) 0
theorem w_impl_RootNumber (x : Nat) (K : V → Heap → Prop) : wpFn c_impl_RootNumber Try.f122 (encAs [.cell tF] (x, ())) [] K =
 cond (ovf (fsqrt FloatKind.f64 (widen x)))
 (K .undef [])
 (K (.float .f32 (narrow (fsqrt FloatKind.f64 (widen x)))) []) := by kernel_rfl
noncomputable def s_impl_RootNumber : Sm := semT [.cell tF] fun x => match x with | (x, _) => .float .f32 (rootV x)
theorem ok_impl_RootNumber : FnOk Try.prog 122 s_impl_RootNumber := fnOk_typed (fnOk_runC (C := c_impl_RootNumber) rfl mixed (.cons ok_math_Sqrt .nil) .nil .nil Try.func122 (by kernel_rfl)) fun (x : ((Nat) × Unit)) wf K h => by
  obtain ⟨x, ⟨⟩⟩ := x
  replace h : K (.float .f32 (rootV x)) [] := h
  rw [w_impl_RootNumber x K]
  rw [root_ovf wf.1.1 wf.1.2]
  exact h

noncomputable def c_impl_LongOf : Ctx := mkC Try.prog tyT [(123, s_impl_InnerOf), (122, s_impl_RootNumber)] [] [] 7 (fun _ => none) 0
theorem w_impl_LongOf (a : V3) (K : V → Heap → Prop) : wpFn c_impl_LongOf Try.f61 (encAs [.agg tV] (a, ())) [] K =
 K (.float .f32 (rootV (innerV a a))) [] := by kernel_rfl
noncomputable def s_impl_LongOf : Sm := semT [.agg tV] fun x => match x with | (a, _) => .float .f32 (longV a)
theorem ok_impl_LongOf : FnOk Try.prog 61 s_impl_LongOf := fnOk_typed (fnOk_runC (C := c_impl_LongOf) rfl mixed (.cons ok_impl_InnerOf (.cons ok_impl_RootNumber .nil)) .nil .nil Try.func61 (by kernel_rfl)) fun (x : ((V3) × Unit)) wf K h => by
  obtain ⟨a, ⟨⟩⟩ := x
  replace h : K (.float .f32 (longV a)) [] := h
  rw [w_impl_LongOf a K]
  exact h

end Go.Proofs.Ytfhpmcdbfebflaa

/- Distances of shapes: walks. -/
set_option linter.unusedVariables false
set_option linter.unusedSimpArgs false
set_option maxRecDepth 100000
namespace Go.Proofs.Ytfhpmcdbfebflaa
open Go.Ev Go.Ev.Fl

def lsV (x y : Nat) : Nat := bif flt .f32 y x then y else x
def grV (x y : Nat) : Nat := bif fgt .f32 y x then y else x
def absV (x : Nat) : Nat := bif flt .f32 x 0 then fneg .f32 x else x
def shoV (y d : Nat) : Nat := fsub .f32 y (lsV (grV 0 y) d)
def bulV (x k : Nat) : Nat := bif fgt .f32 x 0 then fdiv .f32 (fmul .f32 x x) (fmul .f32 1082130432 k) else 0
def foldV (c s : Nat) : Nat := fmul .f32 (fmul .f32 1073741824 s) (rintV (fdiv .f32 c (fmul .f32 1073741824 s)))
def nt (xs : List Nat) (i : Nat) : Nat := (xs[i]?).getD 0
def boxN (xs : List Nat) (p : V3) : Nat :=
  fadd .f32 (longV (grV 0 (fsub .f32 (absV p.1) (nt xs 0)), grV 0 (fsub .f32 (absV p.2.1) (nt xs 1)), grV 0 (fsub .f32 (absV p.2.2) (nt xs 2))))
    (lsV 0 (grV (grV (fsub .f32 (absV p.1) (nt xs 0)) (fsub .f32 (absV p.2.1) (nt xs 1))) (fsub .f32 (absV p.2.2) (nt xs 2))))
def leafV (k : Int) (xs : List Nat) (p : V3) : Nat :=
  bif k == 0 then fsub .f32 (longV p) (nt xs 0) else
  bif k == 1 then boxN xs p else
  bif k == 2 then fsub .f32 (longV (p.1, shoV p.2.1 (nt xs 0), p.2.2)) (nt xs 1) else
  bif k == 3 then fsub .f32 (longV (fsub .f32 (longV (p.1, 0, p.2.2)) (nt xs 0), p.2.1, 0)) (nt xs 1) else
  fsub .f32 (innerV p (nt xs 0, nt xs 1, nt xs 2)) (nt xs 3)
def smoN (r x y : Nat) : Nat := bif fgt .f32 (fsub .f32 r (absV (fsub .f32 x y))) 0 then fsub .f32 (lsV x y) (bulV (fsub .f32 r (absV (fsub .f32 x y))) r) else lsV x y
def mixV (k : Int) (xs : List Nat) (x y : Nat) : Nat :=
  bif k == 5 then lsV x y else bif k == 6 then grV x y else bif k == 7 then grV x (fneg .f32 y) else bif k == 8 then smoN (nt xs 0) x y else
  bif k == 10 then fmul .f32 x (nt xs 0) else bif k == 15 then fsub .f32 x (nt xs 0) else bif k == 16 then fsub .f32 (absV x) (nt xs 0) else x
def c3 (p : V3) (i : Int) : Nat := bif i == 0 then p.1 else bif i == 1 then p.2.1 else p.2.2
def set3 (p : V3) (i : Int) (x : Nat) : V3 := bif i == 0 then (x, p.2.1, p.2.2) else bif i == 1 then (p.1, x, p.2.2) else (p.1, p.2.1, x)
def turnN (a : Int) (v : Nat) (p : V3) : V3 :=
  set3 (set3 p ((a + 1) % 3) (fadd .f32 (fmul .f32 (sineF (fsub .f32 1048576000 v)) (c3 p ((a + 1) % 3))) (fmul .f32 (sineF v) (c3 p ((a + 2) % 3)))))
    ((a + 2) % 3) (fsub .f32 (fmul .f32 (sineF (fsub .f32 1048576000 v)) (c3 p ((a + 2) % 3))) (fmul .f32 (sineF v) (c3 p ((a + 1) % 3))))
def pointN (k a : Int) (xs : List Nat) (p : V3) : V3 :=
  bif k == 9 then subV p (nt xs 0, nt xs 1, nt xs 2) else
  bif k == 10 then (fdiv .f32 p.1 (nt xs 0), fdiv .f32 p.2.1 (nt xs 0), fdiv .f32 p.2.2 (nt xs 0)) else
  bif k == 11 then (fdiv .f32 p.1 (nt xs 0), fdiv .f32 p.2.1 (nt xs 1), fdiv .f32 p.2.2 (nt xs 2)) else
  bif k == 12 then turnN a (nt xs 0) p else
  bif k == 13 then set3 p a (absV (c3 p a)) else
  bif k == 14 then set3 p a (absV (fsub .f32 (c3 p a) (foldV (c3 p a) (nt xs 0)))) else p
def turnB (k : Int) (xs : List Nat) : Bool := !(k == 12) || (sineOk (nt xs 0) && sineOk (fsub .f32 1048576000 (nt xs 0)))

noncomputable def c_impl_lesser : Ctx := mkC Try.prog tyT [] [] [] 10 (fun _ => none) 0
theorem w_impl_lesser (x y : Nat) (K : V → Heap → Prop) : wpFn c_impl_lesser Try.f111 (encAs [.cell tF, .cell tF] (x, y, ())) [] K =
 cond (flt FloatKind.f32 y x)
 (K (.float .f32 (y)) [])
 (K (.float .f32 (x)) []) := by kernel_rfl
noncomputable def s_impl_lesser : Sm := semT [.cell tF, .cell tF] fun x => match x with | (x, y, _) => .float .f32 (lsV x y)
theorem ok_impl_lesser : FnOk Try.prog 111 s_impl_lesser := fnOk_typed (fnOk_runC (C := c_impl_lesser) rfl mixed .nil .nil .nil Try.func111 (by kernel_rfl)) fun (x : ((Nat) × (Nat) × Unit)) wf K h => by
  obtain ⟨x, y, ⟨⟩⟩ := x
  replace h : K (.float .f32 (lsV x y)) [] := h
  rw [w_impl_lesser x y K]
  revert h
  unfold lsV
  cases flt .f32 y x <;> exact id

noncomputable def c_impl_greater : Ctx := mkC Try.prog tyT [] [] [] 10 (fun _ => none) 0
theorem w_impl_greater (x y : Nat) (K : V → Heap → Prop) : wpFn c_impl_greater Try.f164 (encAs [.cell tF, .cell tF] (x, y, ())) [] K =
 cond (fgt FloatKind.f32 y x)
 (K (.float .f32 (y)) [])
 (K (.float .f32 (x)) []) := by kernel_rfl
noncomputable def s_impl_greater : Sm := semT [.cell tF, .cell tF] fun x => match x with | (x, y, _) => .float .f32 (grV x y)
theorem ok_impl_greater : FnOk Try.prog 164 s_impl_greater := fnOk_typed (fnOk_runC (C := c_impl_greater) rfl mixed .nil .nil .nil Try.func164 (by kernel_rfl)) fun (x : ((Nat) × (Nat) × Unit)) wf K h => by
  obtain ⟨x, y, ⟨⟩⟩ := x
  replace h : K (.float .f32 (grV x y)) [] := h
  rw [w_impl_greater x y K]
  revert h
  unfold grV
  cases fgt .f32 y x <;> exact id

noncomputable def c_impl_sizeOf : Ctx := mkC Try.prog tyT [] [] [] 8 (fun _ => none) 0
theorem w_impl_sizeOf (x : Nat) (K : V → Heap → Prop) : wpFn c_impl_sizeOf Try.f118 (encAs [.cell tF] (x, ())) [] K =
 cond (flt FloatKind.f32 x 0)
 (K (.float .f32 (fneg FloatKind.f32 x)) [])
 (K (.float .f32 (x)) []) := by kernel_rfl
noncomputable def s_impl_sizeOf : Sm := semT [.cell tF] fun x => match x with | (x, _) => .float .f32 (absV x)
theorem ok_impl_sizeOf : FnOk Try.prog 118 s_impl_sizeOf := fnOk_typed (fnOk_runC (C := c_impl_sizeOf) rfl mixed .nil .nil .nil Try.func118 (by kernel_rfl)) fun (x : ((Nat) × Unit)) wf K h => by
  obtain ⟨x, ⟨⟩⟩ := x
  replace h : K (.float .f32 (absV x)) [] := h
  rw [w_impl_sizeOf x K]
  revert h
  unfold absV
  cases flt .f32 x 0 <;> exact id

noncomputable def c_impl_shortened : Ctx := mkC Try.prog tyT [(111, s_impl_lesser), (164, s_impl_greater)] [] [] 11 (fun _ => none) 0
theorem w_impl_shortened (y d : Nat) (K : V → Heap → Prop) : wpFn c_impl_shortened Try.f165 (encAs [.cell tF, .cell tF] (y, d, ())) [] K =
 K (.float .f32 (fsub FloatKind.f32 y (lsV (grV 0 y) d))) [] := by kernel_rfl
noncomputable def s_impl_shortened : Sm := semT [.cell tF, .cell tF] fun x => match x with | (y, d, _) => .float .f32 (shoV y d)
theorem ok_impl_shortened : FnOk Try.prog 165 s_impl_shortened := fnOk_typed (fnOk_runC (C := c_impl_shortened) rfl mixed (.cons ok_impl_lesser (.cons ok_impl_greater .nil)) .nil .nil Try.func165 (by kernel_rfl)) fun (x : ((Nat) × (Nat) × Unit)) wf K h => by
  obtain ⟨y, d, ⟨⟩⟩ := x
  replace h : K (.float .f32 (shoV y d)) [] := h
  rw [w_impl_shortened y d K]
  exact h

noncomputable def c_impl_bulge : Ctx := mkC Try.prog tyT [] [] [] 13 (fun _ => none) 0
theorem w_impl_bulge (x k : Nat) (K : V → Heap → Prop) : wpFn c_impl_bulge Try.f166 (encAs [.cell tF, .cell tF] (x, k, ())) [] K =
 cond (fgt FloatKind.f32 x 0)
 (K (.float .f32 (fdiv FloatKind.f32 (fmul FloatKind.f32 x x) (fmul FloatKind.f32 1082130432 k))) [])
 (K (.float .f32 0) []) := by kernel_rfl
noncomputable def s_impl_bulge : Sm := semT [.cell tF, .cell tF] fun x => match x with | (x, k, _) => .float .f32 (bulV x k)
theorem ok_impl_bulge : FnOk Try.prog 166 s_impl_bulge := fnOk_typed (fnOk_runC (C := c_impl_bulge) rfl mixed .nil .nil .nil Try.func166 (by kernel_rfl)) fun (x : ((Nat) × (Nat) × Unit)) wf K h => by
  obtain ⟨x, k, ⟨⟩⟩ := x
  replace h : K (.float .f32 (bulV x k)) [] := h
  rw [w_impl_bulge x k K]
  revert h
  unfold bulV
  cases fgt .f32 x 0 <;> exact id

noncomputable def c_impl_foldOf : Ctx := mkC Try.prog tyT [(163, s_impl_nearest)] [] [] 13 (fun _ => none) 0
theorem w_impl_foldOf (x s : Nat) (K : V → Heap → Prop) : wpFn c_impl_foldOf Try.f137 (encAs [.cell tF, .cell tF] (x, s, ())) [] K =
 K (.float .f32 (fmul FloatKind.f32 (fmul FloatKind.f32 1073741824 s) (rintV (fdiv FloatKind.f32 x (fmul FloatKind.f32 1073741824 s))))) [] := by kernel_rfl
noncomputable def s_impl_foldOf : Sm := semT [.cell tF, .cell tF] fun x => match x with | (x, s, _) => .float .f32 (foldV x s)
theorem ok_impl_foldOf : FnOk Try.prog 137 s_impl_foldOf := fnOk_typed (fnOk_runC (C := c_impl_foldOf) rfl mixed (.cons ok_impl_nearest .nil) .nil .nil Try.func137 (by kernel_rfl)) fun (x : ((Nat) × (Nat) × Unit)) wf K h => by
  obtain ⟨x, s, ⟨⟩⟩ := x
  replace h : K (.float .f32 (foldV x s)) [] := h
  rw [w_impl_foldOf x s K]
  exact h

noncomputable def c_impl_coordinates : Ctx := mkC Try.prog tyT [] [] [] 10 (fun _ => none) 0
theorem w_impl_coordinates (u v w : Nat) (K : V → Heap → Prop) : wpFn c_impl_coordinates Try.f135 (encAs [.agg tV] ((u, v, w), ())) [] K =
 K (.agg [(.float .f32 (u)), (.float .f32 (v)), (.float .f32 (w))]) [] := by kernel_rfl
noncomputable def s_impl_coordinates : Sm := semT [.agg tV] fun x => match x with | ((u, v, w), _) => .agg [.float .f32 u, .float .f32 v, .float .f32 w]
theorem ok_impl_coordinates : FnOk Try.prog 135 s_impl_coordinates := fnOk_typed (fnOk_runC (C := c_impl_coordinates) rfl mixed .nil .nil .nil Try.func135 (by kernel_rfl)) fun (x : (((Nat) × (Nat) × (Nat)) × Unit)) wf K h => by
  obtain ⟨⟨u, v, w⟩, ⟨⟩⟩ := x
  replace h : K (.agg [.float .f32 u, .float .f32 v, .float .f32 w]) [] := h
  rw [w_impl_coordinates u v w K]
  exact h

noncomputable def c_impl_vectorOf : Ctx := mkC Try.prog tyT [] [] [] 10 (fun _ => none) 0
theorem w_impl_vectorOf (u v w : Nat) (K : V → Heap → Prop) : wpFn c_impl_vectorOf Try.f138 (encAs [.agg tV] ((u, v, w), ())) [] K =
 K (.agg [(.float .f32 (u)), (.float .f32 (v)), (.float .f32 (w))]) [] := by kernel_rfl
noncomputable def s_impl_vectorOf : Sm := semT [.agg tV] fun x => match x with | ((u, v, w), _) => .agg [.float .f32 u, .float .f32 v, .float .f32 w]
theorem ok_impl_vectorOf : FnOk Try.prog 138 s_impl_vectorOf := fnOk_typed (fnOk_runC (C := c_impl_vectorOf) rfl mixed .nil .nil .nil Try.func138 (by kernel_rfl)) fun (x : (((Nat) × (Nat) × (Nat)) × Unit)) wf K h => by
  obtain ⟨⟨u, v, w⟩, ⟨⟩⟩ := x
  replace h : K (.agg [.float .f32 u, .float .f32 v, .float .f32 w]) [] := h
  rw [w_impl_vectorOf u v w K]
  exact h

theorem nums_len {k : Int} {xs : List Nat} (h : numsB k xs = true) : (xs.length : Int) = kindN k := by
  unfold numsB at h
  simp only [Bool.and_eq_true, beq_iff_eq] at h
  exact h.2.1
theorem nums_isK {k : Int} {xs : List Nat} (h : numsB k xs = true) : isK k = true := by
  unfold numsB at h
  simp only [Bool.and_eq_true] at h
  exact h.1
theorem list1 {xs : List Nat} (h : (xs.length : Int) = 1) : ∃ x, xs = [x] := List.length_eq_one_iff.1 (by omega)
theorem list2 {xs : List Nat} (h : (xs.length : Int) = 2) : ∃ x y, xs = [x, y] := by
  match xs, h with
  | [x, y], _ => exact ⟨x, y, rfl⟩
  | [], h => simp at h
  | [_], h => simp at h
  | _ :: _ :: _ :: _, h => simp only [List.length_cons] at h; omega
theorem list3 {xs : List Nat} (h : (xs.length : Int) = 3) : ∃ x y z, xs = [x, y, z] := by
  match xs, h with
  | [x, y, z], _ => exact ⟨x, y, z, rfl⟩
  | [], h => simp at h
  | [_], h => simp at h
  | [_, _], h => simp at h
  | _ :: _ :: _ :: _ :: _, h => simp only [List.length_cons] at h; omega
theorem list4 {xs : List Nat} (h : (xs.length : Int) = 4) : ∃ x y z w, xs = [x, y, z, w] := by
  match xs, h with
  | [x, y, z, w], _ => exact ⟨x, y, z, w, rfl⟩
  | [], h => simp at h
  | [_], h => simp at h
  | [_, _], h => simp at h
  | [_, _, _], h => simp at h
  | _ :: _ :: _ :: _ :: _ :: _, h => simp only [List.length_cons] at h; omega

noncomputable def c_impl_Node_leaf : Ctx := mkC Try.prog tyT [(61, s_impl_LongOf), (118, s_impl_sizeOf), (164, s_impl_greater), (111, s_impl_lesser), (165, s_impl_shortened), (123, s_impl_InnerOf)] [] [] 117 (fun _ => none) 0
theorem w_impl_Node_leaf_0 (a c : Int) (xs : List Nat) (p : V3) (K : V → Heap → Prop) : wpFn c_impl_Node_leaf Try.f139 (encAs [.ref tN, .agg tV] ((0, a, c, xs), p, ())) [] K =
  (match xs[0]? with
    | some y0 => K (.float .f32 (fsub FloatKind.f32 (longV p) y0)) []
    | none => False) := by kernel_rfl
theorem w_impl_Node_leaf_1 (a c : Int) (xs : List Nat) (p : V3) (K : V → Heap → Prop) : wpFn c_impl_Node_leaf Try.f139 (encAs [.ref tN, .agg tV] ((1, a, c, xs), p, ())) [] K =
  (match xs[0]? with
    | some y0 => (match xs[1]? with
      | some y1 => (match xs[2]? with
        | some y2 => K (.float .f32 (fadd FloatKind.f32 (longV (grV 0 (fsub FloatKind.f32 (absV (Prod.fst p)) y0), grV 0 (fsub FloatKind.f32 (absV (Prod.fst (Prod.snd p))) y1), grV 0 (fsub FloatKind.f32 (absV (Prod.snd (Prod.snd p))) y2))) (lsV 0 (grV (grV (fsub FloatKind.f32 (absV (Prod.fst p)) y0) (fsub FloatKind.f32 (absV (Prod.fst (Prod.snd p))) y1)) (fsub FloatKind.f32 (absV (Prod.snd (Prod.snd p))) y2))))) []
        | none => False)
      | none => False)
    | none => False) := by kernel_rfl
theorem w_impl_Node_leaf_2 (a c : Int) (xs : List Nat) (p : V3) (K : V → Heap → Prop) : wpFn c_impl_Node_leaf Try.f139 (encAs [.ref tN, .agg tV] ((2, a, c, xs), p, ())) [] K =
  (match xs[0]? with
    | some y0 => (match xs[1]? with
      | some y1 => K (.float .f32 (fsub FloatKind.f32 (longV (Prod.fst p, shoV (Prod.fst (Prod.snd p)) y0, Prod.snd (Prod.snd p))) y1)) []
      | none => False)
    | none => False) := by kernel_rfl
theorem w_impl_Node_leaf_3 (a c : Int) (xs : List Nat) (p : V3) (K : V → Heap → Prop) : wpFn c_impl_Node_leaf Try.f139 (encAs [.ref tN, .agg tV] ((3, a, c, xs), p, ())) [] K =
  (match xs[0]? with
    | some y0 => (match xs[1]? with
      | some y1 => K (.float .f32 (fsub FloatKind.f32 (longV (fsub FloatKind.f32 (longV (Prod.fst p, 0, Prod.snd (Prod.snd p))) y0, Prod.fst (Prod.snd p), 0)) y1)) []
      | none => False)
    | none => False) := by kernel_rfl
theorem w_impl_Node_leaf_4 (a c : Int) (xs : List Nat) (p : V3) (K : V → Heap → Prop) : wpFn c_impl_Node_leaf Try.f139 (encAs [.ref tN, .agg tV] ((4, a, c, xs), p, ())) [] K =
  (match xs[0]? with
    | some y0 => (match xs[1]? with
      | some y1 => (match xs[2]? with
        | some y2 => (match xs[3]? with
          | some y3 => K (.float .f32 (fsub FloatKind.f32 (innerV p (y0, y1, y2)) y3)) []
          | none => False)
        | none => False)
      | none => False)
    | none => False) := by kernel_rfl
noncomputable def s_impl_Node_leaf : Sm := semG [.ref tN, .agg tV] (fun x => match x with | ((k, a, c, xs), p, _) => numsB k xs && inR k 0 4) fun x => match x with | ((k, a, c, xs), p, _) => .float .f32 (leafV k xs p)
theorem ok_impl_Node_leaf : FnOk Try.prog 139 s_impl_Node_leaf := fnOk_typedG (fnOk_runC (C := c_impl_Node_leaf) rfl mixed (.cons ok_impl_LongOf (.cons ok_impl_sizeOf (.cons ok_impl_greater (.cons ok_impl_lesser (.cons ok_impl_shortened (.cons ok_impl_InnerOf .nil)))))) .nil .nil Try.func139 (by kernel_rfl)) fun (x : (((Int) × (Int) × (Int) × (List Nat)) × (V3) × Unit)) wf hg K h => by
  obtain ⟨⟨k, a, c, xs⟩, p, ⟨⟩⟩ := x
  replace hg : (numsB k xs && inR k 0 4) = true := hg
  replace h : K (.float .f32 (leafV k xs p)) [] := h
  simp only [Bool.and_eq_true] at hg
  obtain ⟨h1, h2⟩ := hg
  have hl := nums_len h1
  have h2 := inR_iff.1 h2
  rcases (by omega : k = 0 ∨ k = 1 ∨ k = 2 ∨ k = 3 ∨ k = 4) with rfl | rfl | rfl | rfl | rfl
  · obtain ⟨x, rfl⟩ := list1 hl
    rw [w_impl_Node_leaf_0 a c _ p K]; exact Eq.mp (by kernel_rfl) h
  · obtain ⟨x, y, z, rfl⟩ := list3 hl
    rw [w_impl_Node_leaf_1 a c _ p K]; exact Eq.mp (by kernel_rfl) h
  · obtain ⟨x, y, rfl⟩ := list2 hl
    rw [w_impl_Node_leaf_2 a c _ p K]; exact Eq.mp (by kernel_rfl) h
  · obtain ⟨x, y, rfl⟩ := list2 hl
    rw [w_impl_Node_leaf_3 a c _ p K]; exact Eq.mp (by kernel_rfl) h
  · obtain ⟨x, y, z, w, rfl⟩ := list4 hl
    rw [w_impl_Node_leaf_4 a c _ p K]; exact Eq.mp (by kernel_rfl) h

noncomputable def c_impl_Node_mix : Ctx := mkC Try.prog tyT [(111, s_impl_lesser), (164, s_impl_greater), (118, s_impl_sizeOf), (166, s_impl_bulge)] [] [] 90 (fun _ => none) 0
theorem w_impl_Node_mix_5 (a c : Int) (xs : List Nat) (u v : Nat) (K : V → Heap → Prop) : wpFn c_impl_Node_mix Try.f140 (encAs [.ref tN, .cell tF, .cell tF] ((5, a, c, xs), u, v, ())) [] K =
 K (.float .f32 (lsV u v)) [] := by kernel_rfl
theorem w_impl_Node_mix_6 (a c : Int) (xs : List Nat) (u v : Nat) (K : V → Heap → Prop) : wpFn c_impl_Node_mix Try.f140 (encAs [.ref tN, .cell tF, .cell tF] ((6, a, c, xs), u, v, ())) [] K =
 K (.float .f32 (grV u v)) [] := by kernel_rfl
theorem w_impl_Node_mix_7 (a c : Int) (xs : List Nat) (u v : Nat) (K : V → Heap → Prop) : wpFn c_impl_Node_mix Try.f140 (encAs [.ref tN, .cell tF, .cell tF] ((7, a, c, xs), u, v, ())) [] K =
 K (.float .f32 (grV u (fneg FloatKind.f32 v))) [] := by kernel_rfl
theorem w_impl_Node_mix_8 (a c : Int) (xs : List Nat) (u v : Nat) (K : V → Heap → Prop) : wpFn c_impl_Node_mix Try.f140 (encAs [.ref tN, .cell tF, .cell tF] ((8, a, c, xs), u, v, ())) [] K =
  (match xs[0]? with
    | some y0 => cond (fgt FloatKind.f32 (fsub FloatKind.f32 y0 (absV (fsub FloatKind.f32 u v))) 0)
      ((match xs[0]? with
        | some y1 => K (.float .f32 (fsub FloatKind.f32 (lsV u v) (bulV (fsub FloatKind.f32 y0 (absV (fsub FloatKind.f32 u v))) y1))) []
        | none => False))
      (K (.float .f32 (lsV u v)) [])
    | none => False) := by kernel_rfl
theorem w_impl_Node_mix_9 (a c : Int) (xs : List Nat) (u v : Nat) (K : V → Heap → Prop) : wpFn c_impl_Node_mix Try.f140 (encAs [.ref tN, .cell tF, .cell tF] ((9, a, c, xs), u, v, ())) [] K =
 K (.float .f32 (u)) [] := by kernel_rfl
theorem w_impl_Node_mix_10 (a c : Int) (xs : List Nat) (u v : Nat) (K : V → Heap → Prop) : wpFn c_impl_Node_mix Try.f140 (encAs [.ref tN, .cell tF, .cell tF] ((10, a, c, xs), u, v, ())) [] K =
  (match xs[0]? with
    | some y0 => K (.float .f32 (fmul FloatKind.f32 u y0)) []
    | none => False) := by kernel_rfl
theorem w_impl_Node_mix_11 (a c : Int) (xs : List Nat) (u v : Nat) (K : V → Heap → Prop) : wpFn c_impl_Node_mix Try.f140 (encAs [.ref tN, .cell tF, .cell tF] ((11, a, c, xs), u, v, ())) [] K =
 K (.float .f32 (u)) [] := by kernel_rfl
theorem w_impl_Node_mix_12 (a c : Int) (xs : List Nat) (u v : Nat) (K : V → Heap → Prop) : wpFn c_impl_Node_mix Try.f140 (encAs [.ref tN, .cell tF, .cell tF] ((12, a, c, xs), u, v, ())) [] K =
 K (.float .f32 (u)) [] := by kernel_rfl
theorem w_impl_Node_mix_13 (a c : Int) (xs : List Nat) (u v : Nat) (K : V → Heap → Prop) : wpFn c_impl_Node_mix Try.f140 (encAs [.ref tN, .cell tF, .cell tF] ((13, a, c, xs), u, v, ())) [] K =
 K (.float .f32 (u)) [] := by kernel_rfl
theorem w_impl_Node_mix_14 (a c : Int) (xs : List Nat) (u v : Nat) (K : V → Heap → Prop) : wpFn c_impl_Node_mix Try.f140 (encAs [.ref tN, .cell tF, .cell tF] ((14, a, c, xs), u, v, ())) [] K =
 K (.float .f32 (u)) [] := by kernel_rfl
theorem w_impl_Node_mix_15 (a c : Int) (xs : List Nat) (u v : Nat) (K : V → Heap → Prop) : wpFn c_impl_Node_mix Try.f140 (encAs [.ref tN, .cell tF, .cell tF] ((15, a, c, xs), u, v, ())) [] K =
  (match xs[0]? with
    | some y0 => K (.float .f32 (fsub FloatKind.f32 u y0)) []
    | none => False) := by kernel_rfl
theorem w_impl_Node_mix_16 (a c : Int) (xs : List Nat) (u v : Nat) (K : V → Heap → Prop) : wpFn c_impl_Node_mix Try.f140 (encAs [.ref tN, .cell tF, .cell tF] ((16, a, c, xs), u, v, ())) [] K =
  (match xs[0]? with
    | some y0 => K (.float .f32 (fsub FloatKind.f32 (absV u) y0)) []
    | none => False) := by kernel_rfl
noncomputable def s_impl_Node_mix : Sm := semG [.ref tN, .cell tF, .cell tF] (fun x => match x with | ((k, a, c, xs), u, v, _) => numsB k xs && inR k 5 16) fun x => match x with | ((k, a, c, xs), u, v, _) => .float .f32 (mixV k xs u v)
theorem ok_impl_Node_mix : FnOk Try.prog 140 s_impl_Node_mix := fnOk_typedG (fnOk_runC (C := c_impl_Node_mix) rfl mixed (.cons ok_impl_lesser (.cons ok_impl_greater (.cons ok_impl_sizeOf (.cons ok_impl_bulge .nil)))) .nil .nil Try.func140 (by kernel_rfl)) fun (x : (((Int) × (Int) × (Int) × (List Nat)) × (Nat) × (Nat) × Unit)) wf hg K h => by
  obtain ⟨⟨k, a, c, xs⟩, u, v, ⟨⟩⟩ := x
  replace hg : (numsB k xs && inR k 5 16) = true := hg
  replace h : K (.float .f32 (mixV k xs u v)) [] := h
  simp only [Bool.and_eq_true] at hg
  obtain ⟨h1, h2⟩ := hg
  have hl := nums_len h1
  have h2 := inR_iff.1 h2
  rcases (by omega : k = 5 ∨ k = 6 ∨ k = 7 ∨ k = 8 ∨ k = 9 ∨ k = 10 ∨ k = 11 ∨ k = 12 ∨ k = 13 ∨ k = 14 ∨ k = 15 ∨ k = 16) with rfl | rfl | rfl | rfl | rfl | rfl | rfl | rfl | rfl | rfl | rfl | rfl
  · rw [w_impl_Node_mix_5 a c _ u v K]; exact Eq.mp (by kernel_rfl) h
  · rw [w_impl_Node_mix_6 a c _ u v K]; exact Eq.mp (by kernel_rfl) h
  · rw [w_impl_Node_mix_7 a c _ u v K]; exact Eq.mp (by kernel_rfl) h
  · obtain ⟨x, rfl⟩ := list1 hl
    rw [w_impl_Node_mix_8 a c _ u v K]
    replace h : K (.float .f32 (smoN x u v)) [] := h
    unfold smoN at h
    show cond (fgt .f32 (fsub .f32 x (absV (fsub .f32 u v))) 0) (K (.float .f32 (fsub .f32 (lsV u v) (bulV (fsub .f32 x (absV (fsub .f32 u v))) x))) []) (K (.float .f32 (lsV u v)) [])
    revert h
    cases fgt .f32 (fsub .f32 x (absV (fsub .f32 u v))) 0 <;> exact id
  · rw [w_impl_Node_mix_9 a c _ u v K]; exact Eq.mp (by kernel_rfl) h
  · obtain ⟨x, rfl⟩ := list1 hl
    rw [w_impl_Node_mix_10 a c _ u v K]; exact Eq.mp (by kernel_rfl) h
  · rw [w_impl_Node_mix_11 a c _ u v K]; exact Eq.mp (by kernel_rfl) h
  · rw [w_impl_Node_mix_12 a c _ u v K]; exact Eq.mp (by kernel_rfl) h
  · rw [w_impl_Node_mix_13 a c _ u v K]; exact Eq.mp (by kernel_rfl) h
  · rw [w_impl_Node_mix_14 a c _ u v K]; exact Eq.mp (by kernel_rfl) h
  · obtain ⟨x, rfl⟩ := list1 hl
    rw [w_impl_Node_mix_15 a c _ u v K]; exact Eq.mp (by kernel_rfl) h
  · obtain ⟨x, rfl⟩ := list1 hl
    rw [w_impl_Node_mix_16 a c _ u v K]; exact Eq.mp (by kernel_rfl) h

noncomputable def c_impl_Node_point : Ctx := mkC Try.prog tyT [(135, s_impl_coordinates), (39, s_impl_LessVectors), (136, s_impl_SineTurns), (118, s_impl_sizeOf), (137, s_impl_foldOf), (138, s_impl_vectorOf)] [] [] 167 (fun _ => none) 0 false [(135, s_impl_coordinates), (39, s_impl_LessVectors), (136, s_impl_SineTurns), (118, s_impl_sizeOf), (137, s_impl_foldOf), (138, s_impl_vectorOf)] false true true []
theorem w_impl_Node_point_9 (a c : Int) (xs : List Nat) (u v w : Nat) (K : V → Heap → Prop) : wpFn c_impl_Node_point Try.f85 (encAs [.ref tN, .agg tV] ((9, a, c, xs), (u, v, w), ())) [] K =
  (match xs[0]? with
    | some y0 => (match xs[1]? with
      | some y1 => (match xs[2]? with
        | some y2 => K (.agg [(.float .f32 (Prod.fst (subV (u, v, w) (y0, y1, y2)))), (.float .f32 (Prod.fst (Prod.snd (subV (u, v, w) (y0, y1, y2))))), (.float .f32 (Prod.snd (Prod.snd (subV (u, v, w) (y0, y1, y2)))))]) []
        | none => False)
      | none => False)
    | none => False) := by kernel_rfl
theorem w_impl_Node_point_10 (a c : Int) (xs : List Nat) (u v w : Nat) (K : V → Heap → Prop) : wpFn c_impl_Node_point Try.f85 (encAs [.ref tN, .agg tV] ((10, a, c, xs), (u, v, w), ())) [] K =
  (match xs[0]? with
    | some y0 => (match xs[0]? with
      | some y1 => (match xs[0]? with
        | some y2 => K (.agg [(.float .f32 (fdiv FloatKind.f32 u y0)), (.float .f32 (fdiv FloatKind.f32 v y1)), (.float .f32 (fdiv FloatKind.f32 w y2))]) []
        | none => False)
      | none => False)
    | none => False) := by kernel_rfl
theorem w_impl_Node_point_11 (a c : Int) (xs : List Nat) (u v w : Nat) (K : V → Heap → Prop) : wpFn c_impl_Node_point Try.f85 (encAs [.ref tN, .agg tV] ((11, a, c, xs), (u, v, w), ())) [] K =
  (match xs[0]? with
    | some y0 => (match xs[1]? with
      | some y1 => (match xs[2]? with
        | some y2 => K (.agg [(.float .f32 (fdiv FloatKind.f32 u y0)), (.float .f32 (fdiv FloatKind.f32 v y1)), (.float .f32 (fdiv FloatKind.f32 w y2))]) []
        | none => False)
      | none => False)
    | none => False) := by kernel_rfl
theorem w_impl_Node_point_12_0 (a : Int) (xs : List Nat) (u v w : Nat) (K : V → Heap → Prop) : wpFn c_impl_Node_point Try.f85 (encAs [.ref tN, .agg tV] ((12, a, 0, xs), (u, v, w), ())) [] K =
  (match xs[0]? with
    | some y0 => cond (sineOk (fsub FloatKind.f32 1048576000 y0))
      ((match xs[0]? with
        | some y1 => cond (sineOk y1)
          (K (.agg [(.float .f32 (u)), (.float .f32 (fadd FloatKind.f32 (fmul FloatKind.f32 (sineF (fsub FloatKind.f32 1048576000 y0)) v) (fmul FloatKind.f32 (sineF y1) w))), (.float .f32 (fsub FloatKind.f32 (fmul FloatKind.f32 (sineF (fsub FloatKind.f32 1048576000 y0)) w) (fmul FloatKind.f32 (sineF y1) v)))]) [])
          (False)
        | none => False))
      (False)
    | none => False) := by kernel_rfl
theorem w_impl_Node_point_12_1 (a : Int) (xs : List Nat) (u v w : Nat) (K : V → Heap → Prop) : wpFn c_impl_Node_point Try.f85 (encAs [.ref tN, .agg tV] ((12, a, 1, xs), (u, v, w), ())) [] K =
  (match xs[0]? with
    | some y0 => cond (sineOk (fsub FloatKind.f32 1048576000 y0))
      ((match xs[0]? with
        | some y1 => cond (sineOk y1)
          (K (.agg [(.float .f32 (fsub FloatKind.f32 (fmul FloatKind.f32 (sineF (fsub FloatKind.f32 1048576000 y0)) u) (fmul FloatKind.f32 (sineF y1) w))), (.float .f32 (v)), (.float .f32 (fadd FloatKind.f32 (fmul FloatKind.f32 (sineF (fsub FloatKind.f32 1048576000 y0)) w) (fmul FloatKind.f32 (sineF y1) u)))]) [])
          (False)
        | none => False))
      (False)
    | none => False) := by kernel_rfl
theorem w_impl_Node_point_12_2 (a : Int) (xs : List Nat) (u v w : Nat) (K : V → Heap → Prop) : wpFn c_impl_Node_point Try.f85 (encAs [.ref tN, .agg tV] ((12, a, 2, xs), (u, v, w), ())) [] K =
  (match xs[0]? with
    | some y0 => cond (sineOk (fsub FloatKind.f32 1048576000 y0))
      ((match xs[0]? with
        | some y1 => cond (sineOk y1)
          (K (.agg [(.float .f32 (fadd FloatKind.f32 (fmul FloatKind.f32 (sineF (fsub FloatKind.f32 1048576000 y0)) u) (fmul FloatKind.f32 (sineF y1) v))), (.float .f32 (fsub FloatKind.f32 (fmul FloatKind.f32 (sineF (fsub FloatKind.f32 1048576000 y0)) v) (fmul FloatKind.f32 (sineF y1) u))), (.float .f32 (w))]) [])
          (False)
        | none => False))
      (False)
    | none => False) := by kernel_rfl
theorem w_impl_Node_point_13_0 (a : Int) (xs : List Nat) (u v w : Nat) (K : V → Heap → Prop) : wpFn c_impl_Node_point Try.f85 (encAs [.ref tN, .agg tV] ((13, a, 0, xs), (u, v, w), ())) [] K =
 K (.agg [(.float .f32 (absV u)), (.float .f32 (v)), (.float .f32 (w))]) [] := by kernel_rfl
theorem w_impl_Node_point_13_1 (a : Int) (xs : List Nat) (u v w : Nat) (K : V → Heap → Prop) : wpFn c_impl_Node_point Try.f85 (encAs [.ref tN, .agg tV] ((13, a, 1, xs), (u, v, w), ())) [] K =
 K (.agg [(.float .f32 (u)), (.float .f32 (absV v)), (.float .f32 (w))]) [] := by kernel_rfl
theorem w_impl_Node_point_13_2 (a : Int) (xs : List Nat) (u v w : Nat) (K : V → Heap → Prop) : wpFn c_impl_Node_point Try.f85 (encAs [.ref tN, .agg tV] ((13, a, 2, xs), (u, v, w), ())) [] K =
 K (.agg [(.float .f32 (u)), (.float .f32 (v)), (.float .f32 (absV w))]) [] := by kernel_rfl
theorem w_impl_Node_point_14_0 (a : Int) (xs : List Nat) (u v w : Nat) (K : V → Heap → Prop) : wpFn c_impl_Node_point Try.f85 (encAs [.ref tN, .agg tV] ((14, a, 0, xs), (u, v, w), ())) [] K =
  (match xs[0]? with
    | some y0 => K (.agg [(.float .f32 (absV (fsub FloatKind.f32 u (foldV u y0)))), (.float .f32 (v)), (.float .f32 (w))]) []
    | none => False) := by kernel_rfl
theorem w_impl_Node_point_14_1 (a : Int) (xs : List Nat) (u v w : Nat) (K : V → Heap → Prop) : wpFn c_impl_Node_point Try.f85 (encAs [.ref tN, .agg tV] ((14, a, 1, xs), (u, v, w), ())) [] K =
  (match xs[0]? with
    | some y0 => K (.agg [(.float .f32 (u)), (.float .f32 (absV (fsub FloatKind.f32 v (foldV v y0)))), (.float .f32 (w))]) []
    | none => False) := by kernel_rfl
theorem w_impl_Node_point_14_2 (a : Int) (xs : List Nat) (u v w : Nat) (K : V → Heap → Prop) : wpFn c_impl_Node_point Try.f85 (encAs [.ref tN, .agg tV] ((14, a, 2, xs), (u, v, w), ())) [] K =
  (match xs[0]? with
    | some y0 => K (.agg [(.float .f32 (u)), (.float .f32 (v)), (.float .f32 (absV (fsub FloatKind.f32 w (foldV w y0))))]) []
    | none => False) := by kernel_rfl
theorem w_impl_Node_point_15 (a c : Int) (xs : List Nat) (u v w : Nat) (K : V → Heap → Prop) : wpFn c_impl_Node_point Try.f85 (encAs [.ref tN, .agg tV] ((15, a, c, xs), (u, v, w), ())) [] K =
 K (.agg [(.float .f32 (u)), (.float .f32 (v)), (.float .f32 (w))]) [] := by kernel_rfl
theorem w_impl_Node_point_16 (a c : Int) (xs : List Nat) (u v w : Nat) (K : V → Heap → Prop) : wpFn c_impl_Node_point Try.f85 (encAs [.ref tN, .agg tV] ((16, a, c, xs), (u, v, w), ())) [] K =
 K (.agg [(.float .f32 (u)), (.float .f32 (v)), (.float .f32 (w))]) [] := by kernel_rfl
noncomputable def s_impl_Node_point : Sm := semG [.ref tN, .agg tV] (fun x => match x with | ((k, a, c, xs), (u, v, w), _) => numsB k xs && (inR k 9 16 && (axB k a c && turnB k xs))) fun x => match x with | ((k, a, c, xs), (u, v, w), _) => .agg (enc tV (pointN k c xs (u, v, w)))
theorem ok_impl_Node_point : FnOk Try.prog 85 s_impl_Node_point := fnOk_typedG (fnOk_runC (C := c_impl_Node_point) rfl mixed (.cons ok_impl_coordinates (.cons ok_impl_LessVectors (.cons ok_impl_SineTurns (.cons ok_impl_sizeOf (.cons ok_impl_foldOf (.cons ok_impl_vectorOf .nil)))))) .nil .nil Try.func85 (by kernel_rfl) (.cons ok_impl_coordinates (.cons ok_impl_LessVectors (.cons ok_impl_SineTurns (.cons ok_impl_sizeOf (.cons ok_impl_foldOf (.cons ok_impl_vectorOf .nil))))))) fun (x : (((Int) × (Int) × (Int) × (List Nat)) × ((Nat) × (Nat) × (Nat)) × Unit)) wf hg K h => by
  obtain ⟨⟨k, a, c, xs⟩, ⟨u, v, w⟩, ⟨⟩⟩ := x
  replace hg : (numsB k xs && (inR k 9 16 && (axB k a c && turnB k xs))) = true := hg
  replace h : K (.agg (enc tV (pointN k c xs (u, v, w)))) [] := h
  simp only [Bool.and_eq_true] at hg
  obtain ⟨h1, h2, h3, h4⟩ := hg
  have hl := nums_len h1
  have h2 := inR_iff.1 h2
  have ax : k = 12 ∨ k = 13 ∨ k = 14 → c = 0 ∨ c = 1 ∨ c = 2 := by
    intro e
    have : (c == 0 || inR c 0 2) = true := by rcases e with rfl | rfl | rfl <;> exact h3
    rw [Bool.or_eq_true, beq_iff_eq] at this
    rcases this with e | e
    · omega
    · have := inR_iff.1 e; omega
  rcases (by omega : k = 9 ∨ k = 10 ∨ k = 11 ∨ k = 12 ∨ k = 13 ∨ k = 14 ∨ k = 15 ∨ k = 16) with rfl | rfl | rfl | rfl | rfl | rfl | rfl | rfl
  · obtain ⟨x, y, z, rfl⟩ := list3 hl
    rw [w_impl_Node_point_9 a c _ u v w K]; exact Eq.mp (by kernel_rfl) h
  · obtain ⟨x, rfl⟩ := list1 hl
    rw [w_impl_Node_point_10 a c _ u v w K]; exact Eq.mp (by kernel_rfl) h
  · obtain ⟨x, y, z, rfl⟩ := list3 hl
    rw [w_impl_Node_point_11 a c _ u v w K]; exact Eq.mp (by kernel_rfl) h
  · obtain ⟨x, rfl⟩ := list1 hl
    have h4 : (sineOk x && sineOk (fsub .f32 1048576000 x)) = true := h4
    simp only [Bool.and_eq_true] at h4
    rcases ax (by omega) with rfl | rfl | rfl
    · rw [w_impl_Node_point_12_0 a _ u v w K]; exact cond_yes h4.2 (cond_yes h4.1 (Eq.mp (by kernel_rfl) h))
    · rw [w_impl_Node_point_12_1 a _ u v w K]; exact cond_yes h4.2 (cond_yes h4.1 (Eq.mp (by kernel_rfl) h))
    · rw [w_impl_Node_point_12_2 a _ u v w K]; exact cond_yes h4.2 (cond_yes h4.1 (Eq.mp (by kernel_rfl) h))
  · rcases ax (by omega) with rfl | rfl | rfl
    · rw [w_impl_Node_point_13_0 a _ u v w K]; exact Eq.mp (by kernel_rfl) h
    · rw [w_impl_Node_point_13_1 a _ u v w K]; exact Eq.mp (by kernel_rfl) h
    · rw [w_impl_Node_point_13_2 a _ u v w K]; exact Eq.mp (by kernel_rfl) h
  · obtain ⟨x, rfl⟩ := list1 hl
    rcases ax (by omega) with rfl | rfl | rfl
    · rw [w_impl_Node_point_14_0 a _ u v w K]; exact Eq.mp (by kernel_rfl) h
    · rw [w_impl_Node_point_14_1 a _ u v w K]; exact Eq.mp (by kernel_rfl) h
    · rw [w_impl_Node_point_14_2 a _ u v w K]; exact Eq.mp (by kernel_rfl) h
  · rw [w_impl_Node_point_15 a c _ u v w K]; exact Eq.mp (by kernel_rfl) h
  · rw [w_impl_Node_point_16 a c _ u v w K]; exact Eq.mp (by kernel_rfl) h

end Go.Proofs.Ytfhpmcdbfebflaa

/- Distances of shapes: the recursion. -/
set_option linter.unusedVariables false
set_option linter.unusedSimpArgs false
set_option maxRecDepth 100000
namespace Go.Proofs.Ytfhpmcdbfebflaa
open Go.Ev Go.Ev.Fl

def nodeAt (ns : ShapeD) (i : Int) : NodeD := (ns[i.toNat]?).getD (0, 0, 0, [])
def distV : Nat → ShapeD → Int → V3 → Nat
  | 0, _, _, _ => 0
  | N + 1, ns, i, p =>
    bif inR (nodeAt ns i).1 0 4 then leafV (nodeAt ns i).1 (nodeAt ns i).2.2.2 p else
    bif inR (nodeAt ns i).1 5 8 then mixV (nodeAt ns i).1 (nodeAt ns i).2.2.2 (distV N ns (nodeAt ns i).2.1 p) (distV N ns (nodeAt ns i).2.2.1 p) else
    mixV (nodeAt ns i).1 (nodeAt ns i).2.2.2 (distV N ns (nodeAt ns i).2.1 (pointN (nodeAt ns i).1 (nodeAt ns i).2.2.1 (nodeAt ns i).2.2.2 p)) 0
def goodS (ns : ShapeD) : Bool := nodesB ns && ns.all (fun n => turnB n.1 n.2.2.2)

theorem good_at {ns : ShapeD} (h : goodS ns = true) {i : Int} (h0 : 0 ≤ i) (h1 : i < ns.length) : ns[i.toNat]? = some (nodeAt ns i) ∧ nodeB i (nodeAt ns i) = true ∧ turnB (nodeAt ns i).1 (nodeAt ns i).2.2.2 = true := by
  unfold goodS at h
  simp only [Bool.and_eq_true] at h
  obtain ⟨g1, g2⟩ := h
  have hl : i.toNat < ns.length := by omega
  have e : ns[i.toNat]? = some (ns[i.toNat]'hl) := get_lt hl
  have en : nodeAt ns i = ns[i.toNat]'hl := by unfold nodeAt; rw [e]; rfl
  refine ⟨by rw [e, en], ?_, by rw [en]; exact List.all_eq_true.1 g2 _ (List.getElem_mem hl)⟩
  have := List.all_eq_true.1 g1 i.toNat (by simpa using hl)
  rw [e] at this
  simp only at this
  rw [en]
  rwa [Int.toNat_of_nonneg h0] at this
theorem nodeB_parts {i k a c : Int} {xs : List Nat} (h : nodeB i (k, a, c, xs) = true) : numsB k xs = true ∧ axB k a c = true ∧ ∀ d ∈ kids k a c, 0 ≤ d ∧ d < i := by
  have hk := nodeB_kids h
  unfold nodeB at h
  simp only [Bool.and_eq_true] at h
  exact ⟨h.1, h.2.1, fun d hd => by have := hk d hd; omega⟩

noncomputable def sr_impl_Shape_distance (N : Nat) : Sm := semG [.ref tS, .cell tI, .agg tV] (fun x => match x with | (ns, i, p, _) => decide (i.toNat < N) && (goodS ns && (decide (0 ≤ i) && decide (i < ns.length)))) fun x => match x with | (ns, i, p, _) => .float .f32 (distV N ns i p)
noncomputable def c_impl_Shape_distance (N : Nat) : Ctx := mkC Try.prog tyT [(86, sr_impl_Shape_distance N), (83, s_impl_childrenOf), (139, s_impl_Node_leaf), (140, s_impl_Node_mix), (85, s_impl_Node_point)] [] [] 53 (fun _ => none) 0
theorem w_impl_Shape_distance (N : Nat) (ns : ShapeD) (i : Int) (p : V3) (K : V → Heap → Prop) : wpFn (c_impl_Shape_distance N) Try.f86 (encAs [.ref tS, .cell tI, .agg tV] (ns, i, p, ())) [] K =
  cond (decide (0 ≤ i))
    ((match ns[Int.toNat i]? with
      | some y0 => cond ((↑(List.length (kids (Prod.fst y0) (Prod.fst (Prod.snd y0)) (Prod.fst (Prod.snd (Prod.snd y0))))) : Int) == 0)
        (cond (numsB (Prod.fst y0) (Prod.snd (Prod.snd (Prod.snd y0))) && inR (Prod.fst y0) 0 4)
          (K (.float .f32 (leafV (Prod.fst y0) (Prod.snd (Prod.snd (Prod.snd y0))) p)) [])
          (False))
        (cond ((↑(List.length (kids (Prod.fst y0) (Prod.fst (Prod.snd y0)) (Prod.fst (Prod.snd (Prod.snd y0))))) : Int) == 1)
          (cond (numsB (Prod.fst y0) (Prod.snd (Prod.snd (Prod.snd y0))) && (inR (Prod.fst y0) 9 16 && (axB (Prod.fst y0) (Prod.fst (Prod.snd y0)) (Prod.fst (Prod.snd (Prod.snd y0))) && turnB (Prod.fst y0) (Prod.snd (Prod.snd (Prod.snd y0))))))
            (cond (decide (Int.toNat (Prod.fst (Prod.snd y0)) < N) && (goodS ns && (decide (0 ≤ Prod.fst (Prod.snd y0)) && decide (Prod.fst (Prod.snd y0) < (↑(List.length ns) : Int)))))
              (cond (numsB (Prod.fst y0) (Prod.snd (Prod.snd (Prod.snd y0))) && inR (Prod.fst y0) 5 16)
                (K (.float .f32 (mixV (Prod.fst y0) (Prod.snd (Prod.snd (Prod.snd y0))) (distV N ns (Prod.fst (Prod.snd y0)) (pointN (Prod.fst y0) (Prod.fst (Prod.snd (Prod.snd y0))) (Prod.snd (Prod.snd (Prod.snd y0))) p)) 0)) [])
                (False))
              (False))
            (False))
          (cond (decide (Int.toNat (Prod.fst (Prod.snd y0)) < N) && (goodS ns && (decide (0 ≤ Prod.fst (Prod.snd y0)) && decide (Prod.fst (Prod.snd y0) < (↑(List.length ns) : Int)))))
            (cond (decide (Int.toNat (Prod.fst (Prod.snd (Prod.snd y0))) < N) && (goodS ns && (decide (0 ≤ Prod.fst (Prod.snd (Prod.snd y0))) && decide (Prod.fst (Prod.snd (Prod.snd y0)) < (↑(List.length ns) : Int)))))
              (cond (numsB (Prod.fst y0) (Prod.snd (Prod.snd (Prod.snd y0))) && inR (Prod.fst y0) 5 16)
                (K (.float .f32 (mixV (Prod.fst y0) (Prod.snd (Prod.snd (Prod.snd y0))) (distV N ns (Prod.fst (Prod.snd y0)) p) (distV N ns (Prod.fst (Prod.snd (Prod.snd y0))) p))) [])
                (False))
              (False))
            (False)))
      | none => False))
    (False) := by kernel_rfl
theorem okr_impl_Shape_distance : ∀ N, FnOk Try.prog 86 (sr_impl_Shape_distance N)
| 0 => fnOk_never fun _ => rfl
| N + 1 => fnOk_typedG (fnOk_runC (C := c_impl_Shape_distance N) rfl mixed (.cons (okr_impl_Shape_distance N) (.cons ok_impl_childrenOf (.cons ok_impl_Node_leaf (.cons ok_impl_Node_mix (.cons ok_impl_Node_point .nil))))) .nil .nil Try.func86 (by kernel_rfl)) fun (x : ((ShapeD) × (Int) × (V3) × Unit)) wf hg K h => by
  obtain ⟨ns, i, p, ⟨⟩⟩ := x
  replace hg : (decide (i.toNat < (N + 1)) && (goodS ns && (decide (0 ≤ i) && decide (i < ns.length)))) = true := hg
  replace h : K (.float .f32 (distV (N + 1) ns i p)) [] := h
  rw [w_impl_Shape_distance N ns i p K]
  simp only [Bool.and_eq_true, decide_eq_true_eq] at hg
  obtain ⟨g3, g0, g1, g2⟩ := hg
  obtain ⟨e, hb, ht⟩ := good_at g0 g1 g2
  have hs : distV (N + 1) ns i p = bif inR (nodeAt ns i).1 0 4 then leafV (nodeAt ns i).1 (nodeAt ns i).2.2.2 p else
    bif inR (nodeAt ns i).1 5 8 then mixV (nodeAt ns i).1 (nodeAt ns i).2.2.2 (distV N ns (nodeAt ns i).2.1 p) (distV N ns (nodeAt ns i).2.2.1 p) else
    mixV (nodeAt ns i).1 (nodeAt ns i).2.2.2 (distV N ns (nodeAt ns i).2.1 (pointN (nodeAt ns i).1 (nodeAt ns i).2.2.1 (nodeAt ns i).2.2.2 p)) 0 := rfl
  rw [hs] at h
  generalize nodeAt ns i = n at *
  obtain ⟨k, a, c, xs⟩ := n
  obtain ⟨b1, b2, b3⟩ := nodeB_parts hb
  have hk := nums_isK b1
  simp only [d_t g1, e, cond_true]
  simp only at h ht
  rcases kind_cases a c hk with ⟨q1, q2, q3⟩ | ⟨q1, q2, q3⟩ | ⟨q1, q2, q3⟩ <;> rw [q3] at b3 ⊢ <;> simp only [q1, q2, cond_true, cond_false] at h
  · rw [b1, q1]; exact h
  · have k1 := b3 a (by simp)
    have k9 : inR k 9 16 = true := by
      have := inR_iff.1 (show inR k 0 16 = true from hk)
      have n1 : ¬ (0 ≤ k ∧ k ≤ 4) := fun e => by rw [inR_iff.2 e] at q1; cases q1
      have n2 : ¬ (5 ≤ k ∧ k ≤ 8) := fun e => by rw [inR_iff.2 e] at q2; cases q2
      exact inR_iff.2 (by omega)
    have k5 : inR k 5 16 = true := inR_iff.2 (by have := inR_iff.1 k9; omega)
    rw [b1, b2, ht, k9, k5, g0, d_t k1.1, d_t (show a < (ns.length : Int) by omega), d_t (show a.toNat < N by omega)]
    exact h
  · have k1 := b3 a (by simp)
    have k2 := b3 c (by simp)
    have k5 : inR k 5 16 = true := inR_iff.2 (by have := inR_iff.1 q2; omega)
    rw [b1, k5, g0, d_t k1.1, d_t (show a < (ns.length : Int) by omega), d_t (show a.toNat < N by omega), d_t k2.1, d_t (show c < (ns.length : Int) by omega), d_t (show c.toNat < N by omega)]
    exact h
noncomputable abbrev s_impl_Shape_distance : Sm := sr_impl_Shape_distance 17
theorem ok_impl_Shape_distance : FnOk Try.prog 86 s_impl_Shape_distance := okr_impl_Shape_distance 17

end Go.Proofs.Ytfhpmcdbfebflaa

/- Distances of shapes: the functions that ask for them. -/
set_option linter.unusedVariables false
set_option linter.unusedSimpArgs false
set_option maxRecDepth 100000
namespace Go.Proofs.Ytfhpmcdbfebflaa
open Go.Ev Go.Ev.Fl

theorem valid_leng {s : ShapeD} (h : validS s = true) : 1 ≤ s.length ∧ s.length ≤ 16 := by
  unfold validS at h
  simp only [Bool.and_eq_true] at h
  have := inR_iff.1 h.1
  omega
theorem valid_nodes {s : ShapeD} (h : validS s = true) : nodesB s = true := by
  unfold validS at h
  simp only [Bool.and_eq_true] at h
  exact h.2.1
def turnsB (ns : ShapeD) : Bool := ns.all (fun n => turnB n.1 n.2.2.2)
def okS (ns : ShapeD) : Bool := validS ns && turnsB ns
theorem okS_good {s : ShapeD} (h : okS s = true) : goodS s = true ∧ validS s = true ∧ 1 ≤ s.length ∧ s.length ≤ 16 := by
  unfold okS at h
  simp only [Bool.and_eq_true] at h
  refine ⟨?_, h.1, valid_leng h.1⟩
  unfold goodS
  rw [valid_nodes h.1]
  exact h.2
def disV (ns : ShapeD) (p : V3) : Nat := distV 17 ns (ns.length - 1) p

noncomputable def c_impl_Shape_last : Ctx := mkC Try.prog tyT [] [] [] 9 (fun _ => none) 0
theorem w_impl_Shape_last (s : ShapeD) (K : V → Heap → Prop) : wpFn c_impl_Shape_last Try.f84 (encAs [.ref tS] (s, ())) [] K =
 K (.int .i64 (IntKind.wrap IntKind.i64 ((↑(List.length s) : Int) - 1))) [] := by kernel_rfl
noncomputable def s_impl_Shape_last : Sm := semT [.ref tS] fun x => match x with | (s, _) => .int .i64 (IntKind.i64.wrap ((s.length : Int) - 1))
theorem ok_impl_Shape_last : FnOk Try.prog 84 s_impl_Shape_last := fnOk_typed (fnOk_runC (C := c_impl_Shape_last) rfl mixed .nil .nil .nil Try.func84 (by kernel_rfl)) fun (x : ((ShapeD) × Unit)) wf K h => by
  obtain ⟨s, ⟨⟩⟩ := x
  replace h : K (.int .i64 (IntKind.i64.wrap ((s.length : Int) - 1))) [] := h
  rw [w_impl_Shape_last s K]
  exact h

noncomputable def c_impl_Shape_at : Ctx := mkC Try.prog tyT [(84, s_impl_Shape_last), (86, s_impl_Shape_distance)] [] [] 10 (fun _ => none) 0
theorem w_impl_Shape_at (ns : ShapeD) (p : V3) (K : V → Heap → Prop) : wpFn c_impl_Shape_at Try.f73 (encAs [.ref tS, .agg tV] (ns, p, ())) [] K =
 cond (decide (Int.toNat (IntKind.wrap IntKind.i64 ((↑(List.length ns) : Int) - 1)) < 17) && (goodS ns && (decide (0 ≤ IntKind.wrap IntKind.i64 ((↑(List.length ns) : Int) - 1)) && decide (IntKind.wrap IntKind.i64 ((↑(List.length ns) : Int) - 1) < (↑(List.length ns) : Int)))))
 (K (.float .f32 (distV 17 ns (IntKind.wrap IntKind.i64 ((↑(List.length ns) : Int) - 1)) p)) [])
 (False) := by kernel_rfl
noncomputable def s_impl_Shape_at : Sm := semG [.ref tS, .agg tV] (fun x => match x with | (ns, p, _) => okS ns) fun x => match x with | (ns, p, _) => .float .f32 (disV ns p)
theorem ok_impl_Shape_at : FnOk Try.prog 73 s_impl_Shape_at := fnOk_typedG (fnOk_runC (C := c_impl_Shape_at) rfl mixed (.cons ok_impl_Shape_last (.cons ok_impl_Shape_distance .nil)) .nil .nil Try.func73 (by kernel_rfl)) fun (x : ((ShapeD) × (V3) × Unit)) wf hg K h => by
  obtain ⟨ns, p, ⟨⟩⟩ := x
  replace hg : (okS ns) = true := hg
  replace h : K (.float .f32 (disV ns p)) [] := h
  rw [w_impl_Shape_at ns p K]
  obtain ⟨g1, g2, g3, g4⟩ := okS_good hg
  have e : IntKind.i64.wrap ((ns.length : Int) - 1) = (ns.length : Int) - 1 := i64_of (by omega) (by omega)
  rw [e, g1, d_t (show ((ns.length : Int) - 1).toNat < 17 by omega), d_t (show 0 ≤ (ns.length : Int) - 1 by omega), d_t (show (ns.length : Int) - 1 < ns.length by omega)]
  exact h

end Go.Proofs.Ytfhpmcdbfebflaa

/- Rays, factors and marches: walks. -/
set_option linter.unusedVariables false
set_option linter.unusedSimpArgs false
set_option maxRecDepth 100000
namespace Go.Proofs.Ytfhpmcdbfebflaa
open Go.Ev Go.Ev.Fl

abbrev tRay : Ty := .pair tV tV
abbrev tM : Ty := .pair tF (.pair tF tI)
abbrev tH : Ty := .pair tI (.pair tI (.pair tF tV))
abbrev RayD := V3 × V3
abbrev HitD := Int × Int × Nat × V3
def vFin (v : V3) : Bool := finN v.1 && (finN v.2.1 && finN v.2.2)
def unitV (v : V3) : V3 := bif feq .f32 (longV v) 0 || !(finN (longV v) && finN (fdiv .f32 1065353216 (longV v))) then (0, 0, 0) else scaleV v (fdiv .f32 1065353216 (longV v))
def wayV (v : V3) : Bool := !nan .f32 v.1 && (!nan .f32 v.2.1 && (!nan .f32 v.2.2 && (!feq .f32 v.1 0 || (!feq .f32 v.2.1 0 || !feq .f32 v.2.2 0))))
def rayB (r : RayD) : Bool := vFin r.1 && wayV (unitV r.2)
def onV (r : RayD) (far : Nat) : V3 := addV r.1 (scaleV (unitV r.2) far)
def marB (m : Nat × Nat × Int) : Bool := (finN m.1 && fgt .f32 m.1 0) && (finN m.2.1 && (fge .f32 m.2.1 0 && inR m.2.2 1 64))

noncomputable def c_impl_finiteVector : Ctx := mkC Try.prog tyT [(131, s_impl_finite)] [] [] 11 (fun _ => none) 0
theorem w_impl_finiteVector (u : V3) (K : V → Heap → Prop) : wpFn c_impl_finiteVector Try.f74 (encAs [.agg tV] (u, ())) [] K =
 K (.bool (!List.any [Prod.fst u, Prod.fst (Prod.snd u), Prod.snd (Prod.snd u)] fun x => !finN x)) [] := by kernel_rfl
noncomputable def s_impl_finiteVector : Sm := semT [.agg tV] fun x => match x with | (u, _) => .bool (vFin u)
theorem ok_impl_finiteVector : FnOk Try.prog 74 s_impl_finiteVector := fnOk_typed (fnOk_runC (C := c_impl_finiteVector) rfl mixed (.cons ok_impl_finite .nil) .nil .nil Try.func74 (by kernel_rfl)) fun (x : ((V3) × Unit)) wf K h => by
  obtain ⟨u, ⟨⟩⟩ := x
  replace h : K (.bool (vFin u)) [] := h
  rw [w_impl_finiteVector u K]
  have : (!List.any [u.1, u.2.1, u.2.2] fun x => !finN x) = vFin u := by
    unfold vFin
    simp only [List.any_cons, List.any_nil, Bool.not_or, Bool.not_not, Bool.not_false, Bool.and_true]
  rw [this]
  exact h

noncomputable def c_impl_UnitOf : Ctx := mkC Try.prog tyT [(61, s_impl_LongOf), (131, s_impl_finite), (110, s_impl_ScaleVector)] [] [] 22 (fun _ => none) 0
theorem w_impl_UnitOf (v : V3) (K : V → Heap → Prop) : wpFn c_impl_UnitOf Try.f76 (encAs [.agg tV] (v, ())) [] K =
 cond (feq FloatKind.f32 (longV v) 0)
 (K (.agg [(.float .f32 0), (.float .f32 0), (.float .f32 0)]) [])
 (cond (!!List.any [longV v, fdiv FloatKind.f32 (1065353216 : Nat) (longV v)] fun x => !finN x)
 (K (.agg [(.float .f32 0), (.float .f32 0), (.float .f32 0)]) [])
 (K (.agg [(.float .f32 (Prod.fst (scaleV v (fdiv FloatKind.f32 1065353216 (longV v))))), (.float .f32 (Prod.fst (Prod.snd (scaleV v (fdiv FloatKind.f32 1065353216 (longV v)))))), (.float .f32 (Prod.snd (Prod.snd (scaleV v (fdiv FloatKind.f32 1065353216 (longV v))))))]) [])) := by kernel_rfl
noncomputable def s_impl_UnitOf : Sm := semT [.agg tV] fun x => match x with | (v, _) => .agg (enc tV (unitV v))
theorem ok_impl_UnitOf : FnOk Try.prog 76 s_impl_UnitOf := fnOk_typed (fnOk_runC (C := c_impl_UnitOf) rfl mixed (.cons ok_impl_LongOf (.cons ok_impl_finite (.cons ok_impl_ScaleVector .nil))) .nil .nil Try.func76 (by kernel_rfl)) fun (x : ((V3) × Unit)) wf K h => by
  obtain ⟨v, ⟨⟩⟩ := x
  replace h : K (.agg (enc tV (unitV v))) [] := h
  rw [w_impl_UnitOf v K]
  have e : ∀ a b : Nat, (!List.any [a, b] fun x => !finN x) = (finN a && finN b) := fun a b => by
    simp only [List.any_cons, List.any_nil, Bool.not_or, Bool.not_not, Bool.not_false, Bool.and_true]
  simp only [e]
  unfold unitV at h
  revert h
  generalize longV v = l
  generalize fdiv .f32 1065353216 l = d
  cases feq .f32 l 0 <;> cases (finN l && finN d) <;> exact id

noncomputable def c_impl_hasWay : Ctx := mkC Try.prog tyT [(101, s_impl_isNaN)] [] [] 34 (fun _ => none) 0
theorem w_impl_hasWay (v : V3) (K : V → Heap → Prop) : wpFn c_impl_hasWay Try.f75 (encAs [.agg tV] (v, ())) [] K =
 cond (!nan FloatKind.f32 (Prod.fst v))
 (cond (!nan FloatKind.f32 (Prod.fst (Prod.snd v)))
 (cond (!nan FloatKind.f32 (Prod.snd (Prod.snd v)))
 (cond (!feq FloatKind.f32 (Prod.fst v) 0)
 (K (.bool true) [])
 (cond (!feq FloatKind.f32 (Prod.fst (Prod.snd v)) 0)
 (K (.bool true) [])
 (K (.bool (!feq FloatKind.f32 (Prod.snd (Prod.snd v)) 0)) [])))
 (K (.bool false) []))
 (K (.bool false) []))
 (K (.bool false) []) := by kernel_rfl
noncomputable def s_impl_hasWay : Sm := semT [.agg tV] fun x => match x with | (v, _) => .bool (wayV v)
theorem ok_impl_hasWay : FnOk Try.prog 75 s_impl_hasWay := fnOk_typed (fnOk_runC (C := c_impl_hasWay) rfl mixed (.cons ok_impl_isNaN .nil) .nil .nil Try.func75 (by kernel_rfl)) fun (x : ((V3) × Unit)) wf K h => by
  obtain ⟨v, ⟨⟩⟩ := x
  replace h : K (.bool (wayV v)) [] := h
  rw [w_impl_hasWay v K]
  revert h
  unfold wayV
  cases nan .f32 v.1 <;> cases nan .f32 v.2.1 <;> cases nan .f32 v.2.2 <;> cases feq .f32 v.1 0 <;> cases feq .f32 v.2.1 0 <;> cases feq .f32 v.2.2 0 <;> exact id

noncomputable def c_impl_ValidRay : Ctx := mkC Try.prog tyT [(74, s_impl_finiteVector), (76, s_impl_UnitOf), (75, s_impl_hasWay)] [] [] 12 (fun _ => none) 0
theorem w_impl_ValidRay (r : RayD) (K : V → Heap → Prop) : wpFn c_impl_ValidRay Try.f20 (encAs [.agg tRay] (r, ())) [] K =
 cond (vFin (Prod.fst r))
 (K (.bool (wayV (unitV (Prod.snd r)))) [])
 (K (.bool false) []) := by kernel_rfl
noncomputable def s_impl_ValidRay : Sm := semT [.agg tRay] fun x => match x with | (r, _) => .bool (rayB r)
theorem ok_impl_ValidRay : FnOk Try.prog 20 s_impl_ValidRay := fnOk_typed (fnOk_runC (C := c_impl_ValidRay) rfl mixed (.cons ok_impl_finiteVector (.cons ok_impl_UnitOf (.cons ok_impl_hasWay .nil))) .nil .nil Try.func20 (by kernel_rfl)) fun (x : ((RayD) × Unit)) wf K h => by
  obtain ⟨r, ⟨⟩⟩ := x
  replace h : K (.bool (rayB r)) [] := h
  rw [w_impl_ValidRay r K]
  revert h
  unfold rayB
  cases vFin r.1 <;> cases wayV (unitV r.2) <;> exact id

noncomputable def c_impl_Ray_on : Ctx := mkC Try.prog tyT [(76, s_impl_UnitOf), (110, s_impl_ScaleVector), (109, s_impl_AddVectors)] [] [] 17 (fun _ => none) 0
theorem w_impl_Ray_on (r : RayD) (d : Nat) (K : V → Heap → Prop) : wpFn c_impl_Ray_on Try.f72 (encAs [.ref tRay, .cell tF] (r, d, ())) [] K =
 K (.agg [(.float .f32 (Prod.fst (addV (Prod.fst r) (scaleV (unitV (Prod.snd r)) d)))), (.float .f32 (Prod.fst (Prod.snd (addV (Prod.fst r) (scaleV (unitV (Prod.snd r)) d))))), (.float .f32 (Prod.snd (Prod.snd (addV (Prod.fst r) (scaleV (unitV (Prod.snd r)) d)))))]) [] := by kernel_rfl
noncomputable def s_impl_Ray_on : Sm := semT [.ref tRay, .cell tF] fun x => match x with | (r, d, _) => .agg (enc tV (onV r d))
theorem ok_impl_Ray_on : FnOk Try.prog 72 s_impl_Ray_on := fnOk_typed (fnOk_runC (C := c_impl_Ray_on) rfl mixed (.cons ok_impl_UnitOf (.cons ok_impl_ScaleVector (.cons ok_impl_AddVectors .nil))) .nil .nil Try.func72 (by kernel_rfl)) fun (x : ((RayD) × (Nat) × Unit)) wf K h => by
  obtain ⟨r, d, ⟨⟩⟩ := x
  replace h : K (.agg (enc tV (onV r d))) [] := h
  rw [w_impl_Ray_on r d K]
  exact h

noncomputable def c_impl_stepOk : Ctx := mkC Try.prog tyT [(78, s_impl_IsFinite)] [] [] 9 (fun _ => none) 0
theorem w_impl_stepOk (d : Nat) (K : V → Heap → Prop) : wpFn c_impl_stepOk Try.f77 (encAs [.cell tF] (d, ())) [] K =
 cond (finN d)
 (K (.bool (fgt FloatKind.f32 d 0)) [])
 (K (.bool false) []) := by kernel_rfl
noncomputable def s_impl_stepOk : Sm := semT [.cell tF] fun x => match x with | (d, _) => .bool (finN d && fgt .f32 d 0)
theorem ok_impl_stepOk : FnOk Try.prog 77 s_impl_stepOk := fnOk_typed (fnOk_runC (C := c_impl_stepOk) rfl mixed (.cons ok_impl_IsFinite .nil) .nil .nil Try.func77 (by kernel_rfl)) fun (x : ((Nat) × Unit)) wf K h => by
  obtain ⟨d, ⟨⟩⟩ := x
  replace h : K (.bool (finN d && fgt .f32 d 0)) [] := h
  rw [w_impl_stepOk d K]
  revert h
  cases finN d <;> exact id

noncomputable def c_impl_ValidMarch : Ctx := mkC Try.prog tyT [(77, s_impl_stepOk), (78, s_impl_IsFinite), (79, s_impl_in)] [] [] 21 (fun _ => none) 0
theorem w_impl_ValidMarch (a c : Nat) (n : Int) (K : V → Heap → Prop) : wpFn c_impl_ValidMarch Try.f21 (encAs [.agg tM] ((a, c, n), ())) [] K =
 cond (finN a && fgt FloatKind.f32 a 0)
 (cond (finN c)
 (cond (fge FloatKind.f32 c 0)
 (K (.bool (inR n 1 64)) [])
 (K (.bool false) []))
 (K (.bool false) []))
 (K (.bool false) []) := by kernel_rfl
noncomputable def s_impl_ValidMarch : Sm := semT [.agg tM] fun x => match x with | ((a, c, n), _) => .bool (marB (a, c, n))
theorem ok_impl_ValidMarch : FnOk Try.prog 21 s_impl_ValidMarch := fnOk_typed (fnOk_runC (C := c_impl_ValidMarch) rfl mixed (.cons ok_impl_stepOk (.cons ok_impl_IsFinite (.cons ok_impl_in .nil))) .nil .nil Try.func21 (by kernel_rfl)) fun (x : (((Nat) × (Nat) × (Int)) × Unit)) wf K h => by
  obtain ⟨⟨a, c, n⟩, ⟨⟩⟩ := x
  replace h : K (.bool (marB (a, c, n))) [] := h
  rw [w_impl_ValidMarch a c n K]
  revert h
  unfold marB
  cases (finN a && fgt .f32 a 0) <;> cases finN c <;> cases fge .f32 c 0 <;> cases inR n 1 64 <;> exact id

def nf (fs : List Nat) (i : Int) : Nat := (fs[i.toNat]?).getD 0
def facN (fs : List Nat) (n : NodeD) : Nat :=
  bif n.1 == 4 then longV (nt n.2.2.2 0, nt n.2.2.2 1, nt n.2.2.2 2) else
  bif n.1 == 11 then fmul .f32 (nf fs n.2.1) (grV (grV (fdiv .f32 1065353216 (nt n.2.2.2 0)) (fdiv .f32 1065353216 (nt n.2.2.2 1))) (fdiv .f32 1065353216 (nt n.2.2.2 2))) else
  bif inR n.1 0 4 then 1065353216 else
  bif inR n.1 5 8 then grV (nf fs n.2.1) (nf fs n.2.2.1) else nf fs n.2.1
def facL (ns : ShapeD) : Nat → List Nat
  | 0 => []
  | i + 1 => facL ns i ++ [facN (facL ns i) (nodeAt ns i)]
theorem facL_len (ns : ShapeD) (i : Nat) : (facL ns i).length = i := by
  induction i with
  | zero => rfl
  | succ i ih => simp [facL, ih]
def facV (ns : ShapeD) : Nat := nf (facL ns ns.length) (ns.length - 1)
def slopeV (ns : ShapeD) : Nat := bif fge .f32 (facV ns) 1065353216 then facV ns else 1065353216
theorem nf_at {fs : List Nat} {i : Int} (h0 : 0 ≤ i) (h : i < fs.length) : fs[i.toNat]? = some (nf fs i) := by
  unfold nf
  rw [get_lt (show i.toNat < fs.length by omega)]
  rfl

noncomputable def a_impl_Shape_factor : Nat → Option Ann := fun n => bif Nat.beq n 3 then some ⟨[0,3,13,14],1,false⟩ else none
noncomputable def c_impl_Shape_factor : Ctx := mkC Try.prog tyT [(83, s_impl_childrenOf), (61, s_impl_LongOf), (164, s_impl_greater), (84, s_impl_Shape_last)] [] [] 128 a_impl_Shape_factor 0
noncomputable def fr_impl_Shape_factor_3 (ns : ShapeD) (fs : List Nat) (n i : Int) : Fr := [(0, .ref [.vec tN ns] 0), (3, .obj 0 0), (13, .int .i64 n), (14, .int .i64 i)]
noncomputable def hp_impl_Shape_factor_3 (ns : ShapeD) (fs : List Nat) (n i : Int) : Heap := [.sl 0 tF fs]
theorem r_impl_Shape_factor_3 (ns : ShapeD) (fs : List Nat) (n i : Int) (Kn : Fr → Heap → Prop) (K : V → Heap → Prop) : round c_impl_Shape_factor ⟨[0,3,13,14],1,false⟩ (lb c_impl_Shape_factor 3 Try.f147) (fr_impl_Shape_factor_3 ns fs n i) (hp_impl_Shape_factor_3 ns fs n i) Kn (lk c_impl_Shape_factor 3 Try.f147 [] K) =
  cond (decide (i < n))
    (cond (decide (0 ≤ i))
      ((match ns[Int.toNat i]? with
        | some y0 => cond (Prod.fst y0 == 4)
          ((match (Prod.snd (Prod.snd (Prod.snd y0)))[0]? with
            | some y1 => (match (Prod.snd (Prod.snd (Prod.snd y0)))[1]? with
              | some y2 => (match (Prod.snd (Prod.snd (Prod.snd y0)))[2]? with
                | some y3 => cond (decide ((List.length fs + 1) * 4 ≤ 140737488355328))
                  (Kn [(0, (.ref [(.vec tN (ns))] 0)), (3, (.obj 0 0)), (13, (.int .i64 (n))), (14, (.int .i64 (IntKind.wrap IntKind.i64 (i + 1))))] [(.sl 0 (.float .f32) (fs ++ [longV (y1, y2, y3)]))])
                  (False)
                | none => False)
              | none => False)
            | none => False))
          (cond (Prod.fst y0 == 11)
            (cond (decide (0 ≤ Prod.fst (Prod.snd y0)) && Nat.blt (Int.toNat (Prod.fst (Prod.snd y0))) (List.length fs))
              ((match fs[Int.toNat (Prod.fst (Prod.snd y0))]? with
                | some x4 => (match (Prod.snd (Prod.snd (Prod.snd y0)))[0]? with
                  | some y5 => (match (Prod.snd (Prod.snd (Prod.snd y0)))[1]? with
                    | some y6 => (match (Prod.snd (Prod.snd (Prod.snd y0)))[2]? with
                      | some y7 => cond (decide ((List.length fs + 1) * 4 ≤ 140737488355328))
                        (Kn [(0, (.ref [(.vec tN (ns))] 0)), (3, (.obj 0 0)), (13, (.int .i64 (n))), (14, (.int .i64 (IntKind.wrap IntKind.i64 (i + 1))))] [(.sl 0 (.float .f32) (fs ++ [fmul FloatKind.f32 x4 (grV (grV (fdiv FloatKind.f32 (1065353216 : Nat) y5) (fdiv FloatKind.f32 (1065353216 : Nat) y6)) (fdiv FloatKind.f32 (1065353216 : Nat) y7))]))])
                        (False)
                      | none => False)
                    | none => False)
                  | none => False)
                | none => False))
              (False))
            (cond ((↑(List.length (kids (Prod.fst y0) (Prod.fst (Prod.snd y0)) (Prod.fst (Prod.snd (Prod.snd y0))))) : Int) == 1)
              (cond (decide (0 ≤ Prod.fst (Prod.snd y0)) && Nat.blt (Int.toNat (Prod.fst (Prod.snd y0))) (List.length fs))
                ((match fs[Int.toNat (Prod.fst (Prod.snd y0))]? with
                  | some x8 => cond (decide ((List.length fs + 1) * 4 ≤ 140737488355328))
                    (Kn [(0, (.ref [(.vec tN (ns))] 0)), (3, (.obj 0 0)), (13, (.int .i64 (n))), (14, (.int .i64 (IntKind.wrap IntKind.i64 (i + 1))))] [(.sl 0 (.float .f32) (fs ++ [x8]))])
                    (False)
                  | none => False))
                (False))
              (cond ((↑(List.length (kids (Prod.fst y0) (Prod.fst (Prod.snd y0)) (Prod.fst (Prod.snd (Prod.snd y0))))) : Int) == 2)
                (cond (decide (0 ≤ Prod.fst (Prod.snd y0)) && Nat.blt (Int.toNat (Prod.fst (Prod.snd y0))) (List.length fs))
                  ((match fs[Int.toNat (Prod.fst (Prod.snd y0))]? with
                    | some x9 => cond (decide (0 ≤ Prod.fst (Prod.snd (Prod.snd y0))) && Nat.blt (Int.toNat (Prod.fst (Prod.snd (Prod.snd y0)))) (List.length fs))
                      ((match fs[Int.toNat (Prod.fst (Prod.snd (Prod.snd y0)))]? with
                        | some x10 => cond (decide ((List.length fs + 1) * 4 ≤ 140737488355328))
                          (Kn [(0, (.ref [(.vec tN (ns))] 0)), (3, (.obj 0 0)), (13, (.int .i64 (n))), (14, (.int .i64 (IntKind.wrap IntKind.i64 (i + 1))))] [(.sl 0 (.float .f32) (fs ++ [grV x9 x10]))])
                          (False)
                        | none => False))
                      (False)
                    | none => False))
                  (False))
                (cond (decide ((List.length fs + 1) * 4 ≤ 140737488355328))
                  (Kn [(0, (.ref [(.vec tN (ns))] 0)), (3, (.obj 0 0)), (13, (.int .i64 (n))), (14, (.int .i64 (IntKind.wrap IntKind.i64 (i + 1))))] [(.sl 0 (.float .f32) (fs ++ [(1065353216 : Nat)]))])
                  (False)))))
        | none => False))
      (False))
    (cond (decide (0 ≤ IntKind.wrap IntKind.i64 ((↑(List.length ns) : Int) - 1)) && Nat.blt (Int.toNat (IntKind.wrap IntKind.i64 ((↑(List.length ns) : Int) - 1))) (List.length fs))
      ((match fs[Int.toNat (IntKind.wrap IntKind.i64 ((↑(List.length ns) : Int) - 1))]? with
        | some x11 => K (.float .f32 (x11)) []
        | none => False))
      (False)) := by kernel_rfl
theorem w_impl_Shape_factor (ns : ShapeD) (K : V → Heap → Prop) : wpFn c_impl_Shape_factor Try.f147 (encAs [.ref tS] (ns, ())) [] K =
 LoopE c_impl_Shape_factor ⟨[0, 3, 13, 14], 1, false⟩ (lb c_impl_Shape_factor 3 Try.f147) [(0, (.ref [(.vec tN (ns))] 0)), (3, (.obj 0 0)), (13, (.int .i64 ((↑(List.length ns) : Int)))), (14, (.int .i64 0))] [(.sl 0 (.float .f32) ([]))] (lk c_impl_Shape_factor 3 Try.f147 [] K) := by kernel_rfl
noncomputable def s_impl_Shape_factor : Sm := semG [.ref tS] (fun x => match x with | (ns, _) => goodS ns && (decide (1 ≤ ns.length) && decide (ns.length ≤ 16))) fun x => match x with | (ns, _) => .float .f32 (facV ns)
theorem ok_impl_Shape_factor : FnOk Try.prog 147 s_impl_Shape_factor := fnOk_typedG (fnOk_runC (C := c_impl_Shape_factor) rfl mixed (.cons ok_impl_childrenOf (.cons ok_impl_LongOf (.cons ok_impl_greater (.cons ok_impl_Shape_last .nil)))) .nil .nil Try.func147 (by kernel_rfl)) fun (x : ((ShapeD) × Unit)) wf hg K h => by
  obtain ⟨ns, ⟨⟩⟩ := x
  replace hg : (goodS ns && (decide (1 ≤ ns.length) && decide (ns.length ≤ 16))) = true := hg
  replace h : K (.float .f32 (facV ns)) [] := h
  rw [w_impl_Shape_factor ns K]
  simp only [Bool.and_eq_true, decide_eq_true_eq] at hg
  obtain ⟨g0, g1, g2⟩ := hg
  refine loop_run (σ := Nat) (fun i => fr_impl_Shape_factor_3 ns [] ns.length i) (fun i => hp_impl_Shape_factor_3 ns (facL ns i) ns.length i) (fun i => i ≤ ns.length) (fun i => ns.length - i) ?_ 0 (Nat.zero_le _)
  intro i hi Kn hk
  rw [show fr_impl_Shape_factor_3 ns [] ns.length i = fr_impl_Shape_factor_3 ns (facL ns i) ns.length i from rfl, r_impl_Shape_factor_3 ns (facL ns i) ns.length i Kn K]
  have hl := facL_len ns i
  by_cases hlt : i < ns.length
  · have next := hk (i + 1) hlt (by omega)
    have hs : facL ns (i + 1) = facL ns i ++ [facN (facL ns i) (nodeAt ns i)] := rfl
    rw [hs] at next
    obtain ⟨e, hb, ht⟩ := good_at g0 (i := (i : Int)) (by omega) (by omega)
    generalize nodeAt ns (i : Int) = nd at *
    obtain ⟨k, a, c, xs⟩ := nd
    obtain ⟨b1, b2, b3⟩ := nodeB_parts hb
    have hk0 := nums_isK b1
    have hn := nums_len b1
    generalize facL ns i = fs at *
    have hcap : decide ((fs.length + 1) * 4 ≤ 140737488355328) = true := decide_eq_true (by omega)
    simp only [d_lt hlt, d_0, e, cond_true, hcap]
    rw [i64_of (n := (i : Int) + 1) (by omega) (by omega)]
    unfold facN at next
    simp only at next
    by_cases k4 : k = 4
    · subst k4
      obtain ⟨x, y, z, w, rfl⟩ := list4 hn
      exact next
    · have f4 : (k == 4) = false := beq_eq_false_iff_ne.2 k4
      simp only [f4, cond_false] at next ⊢
      by_cases k11 : k = 11
      · subst k11
        obtain ⟨x, y, z, rfl⟩ := list3 hn
        have k1 := b3 a (by show a ∈ [a]; simp)
        simp only [d_t k1.1, blt_t (show a.toNat < fs.length by omega), Bool.and_self, cond_true, nf_at k1.1 (show a < (fs.length : Int) by omega)]
        exact next
      · have f11 : (k == 11) = false := beq_eq_false_iff_ne.2 k11
        simp only [f11, cond_false] at next ⊢
        rcases kind_cases a c hk0 with ⟨q1, q2, q3⟩ | ⟨q1, q2, q3⟩ | ⟨q1, q2, q3⟩ <;> rw [q3] at b3 ⊢ <;> simp only [q1, q2, cond_true, cond_false] at next
        · exact next
        · have k1 := b3 a (by simp)
          simp only [d_t k1.1, blt_t (show a.toNat < fs.length by omega), Bool.and_self, cond_true, nf_at k1.1 (show a < (fs.length : Int) by omega)]
          exact next
        · have k1 := b3 a (by simp)
          have k2 := b3 c (by simp)
          simp only [d_t k1.1, blt_t (show a.toNat < fs.length by omega), d_t k2.1, blt_t (show c.toNat < fs.length by omega), Bool.and_self, cond_true, nf_at k1.1 (show a < (fs.length : Int) by omega), nf_at k2.1 (show c < (fs.length : Int) by omega)]
          exact next
  · have : i = ns.length := by omega
    subst this
    have e1 : IntKind.i64.wrap ((ns.length : Int) - 1) = (ns.length : Int) - 1 := i64_of (by omega) (by omega)
    rw [e1]
    have q := nf_at (fs := facL ns ns.length) (i := (ns.length : Int) - 1) (by omega) (by omega)
    simp only [d_nlt hlt, cond_false, d_t (show 0 ≤ (ns.length : Int) - 1 by omega), blt_t (show ((ns.length : Int) - 1).toNat < (facL ns ns.length).length by omega), Bool.and_self, cond_true, q]
    exact h

noncomputable def c_impl_Shape_slope : Ctx := mkC Try.prog tyT [(147, s_impl_Shape_factor)] [] [] 9 (fun _ => none) 0
theorem w_impl_Shape_slope (ns : ShapeD) (K : V → Heap → Prop) : wpFn c_impl_Shape_slope Try.f103 (encAs [.ref tS] (ns, ())) [] K =
 cond (goodS ns && (decide (1 ≤ List.length ns) && decide (List.length ns ≤ 16)))
 (cond (fge FloatKind.f32 (facV ns) 1065353216)
 (K (.float .f32 (facV ns)) [])
 (K (.float .f32 1065353216) []))
 (False) := by kernel_rfl
noncomputable def s_impl_Shape_slope : Sm := semG [.ref tS] (fun x => match x with | (ns, _) => goodS ns && (decide (1 ≤ ns.length) && decide (ns.length ≤ 16))) fun x => match x with | (ns, _) => .float .f32 (slopeV ns)
theorem ok_impl_Shape_slope : FnOk Try.prog 103 s_impl_Shape_slope := fnOk_typedG (fnOk_runC (C := c_impl_Shape_slope) rfl mixed (.cons ok_impl_Shape_factor .nil) .nil .nil Try.func103 (by kernel_rfl)) fun (x : ((ShapeD) × Unit)) wf hg K h => by
  obtain ⟨ns, ⟨⟩⟩ := x
  replace hg : (goodS ns && (decide (1 ≤ ns.length) && decide (ns.length ≤ 16))) = true := hg
  replace h : K (.float .f32 (slopeV ns)) [] := h
  rw [w_impl_Shape_slope ns K]
  rw [hg]
  unfold slopeV at h
  revert h
  cases fge .f32 (facV ns) 1065353216 <;> exact id

def marGo (ns : ShapeD) (r : RayD) (near most : Nat) (S : Int) : Nat → Int → Nat → HitD
  | 0, _, d => (2, S, d, onV r d)
  | n + 1, k, d =>
    bif flt .f32 (disV ns (onV r d)) near then (1, k, d, onV r d) else
    bif !fle .f32 (fadd .f32 d (fdiv .f32 (disV ns (onV r d)) (slopeV ns))) most then (0, k, fadd .f32 d (fdiv .f32 (disV ns (onV r d)) (slopeV ns)), onV r (fadd .f32 d (fdiv .f32 (disV ns (onV r d)) (slopeV ns)))) else
    marGo ns r near most S n (k + 1) (fadd .f32 d (fdiv .f32 (disV ns (onV r d)) (slopeV ns)))
def marV (ns : ShapeD) (r : RayD) (m : Nat × Nat × Int) : HitD := marGo ns r m.1 m.2.1 m.2.2 m.2.2.toNat 1 0

noncomputable def a_impl_Shape_march : Nat → Option Ann := fun n => bif Nat.beq n 3 then some ⟨[0,4,5,6,7,8,9],3,false⟩ else none
noncomputable def c_impl_Shape_march : Ctx := mkC Try.prog tyT [(103, s_impl_Shape_slope), (72, s_impl_Ray_on), (73, s_impl_Shape_at)] [] [] 53 a_impl_Shape_march 0
noncomputable def fr_impl_Shape_march_3 (ns : ShapeD) (r : RayD) (a c : Nat) (n : Int) (d e : Nat) (k : Int) : Fr := [(0, .ref [.vec tN ns] 0), (4, .ptr 0 0), (5, .ptr 1 0), (6, .ptr 2 0), (7, .float .f32 d), (8, .float .f32 e), (9, .int .i64 k)]
noncomputable def hp_impl_Shape_march_3 (ns : ShapeD) (r : RayD) (a c : Nat) (n : Int) (d e : Nat) (k : Int) : Heap := [.box (enc tRay r), .box [.float .f32 a, .float .f32 c, .int .i64 n], .box [.int .i64 0, .int .i64 0, .float .f32 0, .float .f32 0, .float .f32 0, .float .f32 0]]
theorem r_impl_Shape_march_3 (ns : ShapeD) (r : RayD) (a c : Nat) (n : Int) (d e : Nat) (k : Int) (Kn : Fr → Heap → Prop) (K : V → Heap → Prop) : round c_impl_Shape_march ⟨[0,4,5,6,7,8,9],3,false⟩ (lb c_impl_Shape_march 3 Try.f71) (fr_impl_Shape_march_3 ns r a c n d e k) (hp_impl_Shape_march_3 ns r a c n d e k) Kn (lk c_impl_Shape_march 3 Try.f71 [] K) =
 cond (decide (k ≤ n))
 (cond (okS ns)
 (cond (flt FloatKind.f32 (disV ns (onV r d)) a)
 (K (.agg [(.int .i64 1), (.int .i64 (k)), (.float .f32 (d)), (.float .f32 (Prod.fst (onV r d))), (.float .f32 (Prod.fst (Prod.snd (onV r d)))), (.float .f32 (Prod.snd (Prod.snd (onV r d))))]) [])
 (cond (!fle FloatKind.f32 (fadd FloatKind.f32 d (fdiv FloatKind.f32 (disV ns (onV r d)) e)) c)
 (K (.agg [(.int .i64 0), (.int .i64 (k)), (.float .f32 (fadd FloatKind.f32 d (fdiv FloatKind.f32 (disV ns (onV r d)) e))), (.float .f32 (Prod.fst (onV r (fadd FloatKind.f32 d (fdiv FloatKind.f32 (disV ns (onV r d)) e))))), (.float .f32 (Prod.fst (Prod.snd (onV r (fadd FloatKind.f32 d (fdiv FloatKind.f32 (disV ns (onV r d)) e)))))), (.float .f32 (Prod.snd (Prod.snd (onV r (fadd FloatKind.f32 d (fdiv FloatKind.f32 (disV ns (onV r d)) e))))))]) [])
 (Kn [(0, (.ref [(.vec tN (ns))] 0)), (4, (.ptr 0 0)), (5, (.ptr 1 0)), (6, (.ptr 2 0)), (7, (.float .f32 (fadd FloatKind.f32 d (fdiv FloatKind.f32 (disV ns (onV r d)) e)))), (8, (.float .f32 (e))), (9, (.int .i64 (IntKind.wrap IntKind.i64 (k + 1))))] [(.box [(.float .f32 (Prod.fst (Prod.fst r))), (.float .f32 (Prod.fst (Prod.snd (Prod.fst r)))), (.float .f32 (Prod.snd (Prod.snd (Prod.fst r)))), (.float .f32 (Prod.fst (Prod.snd r))), (.float .f32 (Prod.fst (Prod.snd (Prod.snd r)))), (.float .f32 (Prod.snd (Prod.snd (Prod.snd r))))]), (.box [(.float .f32 (a)), (.float .f32 (c)), (.int .i64 (n))]), (.box [(.int .i64 0), (.int .i64 0), (.float .f32 0), (.float .f32 0), (.float .f32 0), (.float .f32 0)])])))
 (False))
 (K (.agg [(.int .i64 2), (.int .i64 (n)), (.float .f32 (d)), (.float .f32 (Prod.fst (onV r d))), (.float .f32 (Prod.fst (Prod.snd (onV r d)))), (.float .f32 (Prod.snd (Prod.snd (onV r d))))]) []) := by kernel_rfl
theorem w_impl_Shape_march (ns : ShapeD) (r : RayD) (a c : Nat) (n : Int) (K : V → Heap → Prop) : wpFn c_impl_Shape_march Try.f71 (encAs [.ref tS, .agg tRay, .agg tM] (ns, r, (a, c, n), ())) [] K =
 cond (goodS ns && (decide (1 ≤ List.length ns) && decide (List.length ns ≤ 16)))
 (LoopE c_impl_Shape_march ⟨[0, 4, 5, 6, 7, 8, 9], 3, false⟩ (lb c_impl_Shape_march 3 Try.f71) [(0, (.ref [(.vec tN (ns))] 0)), (4, (.ptr 0 0)), (5, (.ptr 1 0)), (6, (.ptr 2 0)), (7, (.float .f32 0)), (8, (.float .f32 (slopeV ns))), (9, (.int .i64 1))] [(.box [(.float .f32 (Prod.fst (Prod.fst r))), (.float .f32 (Prod.fst (Prod.snd (Prod.fst r)))), (.float .f32 (Prod.snd (Prod.snd (Prod.fst r)))), (.float .f32 (Prod.fst (Prod.snd r))), (.float .f32 (Prod.fst (Prod.snd (Prod.snd r)))), (.float .f32 (Prod.snd (Prod.snd (Prod.snd r))))]), (.box [(.float .f32 (a)), (.float .f32 (c)), (.int .i64 (n))]), (.box [(.int .i64 0), (.int .i64 0), (.float .f32 0), (.float .f32 0), (.float .f32 0), (.float .f32 0)])] (lk c_impl_Shape_march 3 Try.f71 [] K))
 (False) := by kernel_rfl
noncomputable def s_impl_Shape_march : Sm := semG [.ref tS, .agg tRay, .agg tM] (fun x => match x with | (ns, r, (a, c, n), _) => okS ns && inR n 1 64) fun x => match x with | (ns, r, (a, c, n), _) => .agg (enc tH (marV ns r (a, c, n)))
theorem ok_impl_Shape_march : FnOk Try.prog 71 s_impl_Shape_march := fnOk_typedG (fnOk_runC (C := c_impl_Shape_march) rfl mixed (.cons ok_impl_Shape_slope (.cons ok_impl_Ray_on (.cons ok_impl_Shape_at .nil))) .nil .nil Try.func71 (by kernel_rfl)) fun (x : ((ShapeD) × (RayD) × ((Nat) × (Nat) × (Int)) × Unit)) wf hg K h => by
  obtain ⟨ns, r, ⟨a, c, n⟩, ⟨⟩⟩ := x
  replace hg : (okS ns && inR n 1 64) = true := hg
  replace h : K (.agg (enc tH (marV ns r (a, c, n)))) [] := h
  rw [w_impl_Shape_march ns r a c n K]
  simp only [Bool.and_eq_true] at hg
  obtain ⟨h0, hn⟩ := hg
  obtain ⟨g1, g2, g3, g4⟩ := okS_good h0
  have hn := inR_iff.1 hn
  rw [g1, d_t g3, d_t g4]
  simp only [Bool.and_self, cond_true]
  refine loop_run (σ := Nat × Int × Nat) (fun q => fr_impl_Shape_march_3 ns r a c n q.2.2 (slopeV ns) q.2.1) (fun q => hp_impl_Shape_march_3 ns r a c n q.2.2 (slopeV ns) q.2.1) (fun q => (q.1 : Int) ≤ n ∧ q.2.1 = n - q.1 + 1 ∧ marGo ns r a c n q.1 q.2.1 q.2.2 = marV ns r (a, c, n)) (fun q => q.1) ?_ (n.toNat, 1, 0) ⟨by simp only; omega, by simp only; omega, rfl⟩
  rintro ⟨j, k, d⟩ ⟨hj, hkj, hgo⟩ Kn hk
  simp only at hj hkj hgo hk ⊢
  rw [r_impl_Shape_march_3 ns r a c n d (slopeV ns) k Kn K, h0]
  rw [← hgo] at h
  cases j with
  | zero =>
    rw [d_f (show ¬ k ≤ n by omega)]
    exact h
  | succ j =>
    have hu : marGo ns r a c n (j + 1) k d = bif flt .f32 (disV ns (onV r d)) a then (1, k, d, onV r d) else
      bif !fle .f32 (fadd .f32 d (fdiv .f32 (disV ns (onV r d)) (slopeV ns))) c then (0, k, fadd .f32 d (fdiv .f32 (disV ns (onV r d)) (slopeV ns)), onV r (fadd .f32 d (fdiv .f32 (disV ns (onV r d)) (slopeV ns)))) else
      marGo ns r a c n j (k + 1) (fadd .f32 d (fdiv .f32 (disV ns (onV r d)) (slopeV ns))) := rfl
    rw [hu] at h hgo
    rw [d_t (show k ≤ n by omega), i64_of (n := k + 1) (by omega) (by omega)]
    have next := hk (j, k + 1, fadd .f32 d (fdiv .f32 (disV ns (onV r d)) (slopeV ns)))
    generalize fadd .f32 d (fdiv .f32 (disV ns (onV r d)) (slopeV ns)) = d' at *
    cases c1 : flt .f32 (disV ns (onV r d)) a with
    | true => rw [c1] at h; exact h
    | false =>
      rw [c1] at h hgo
      cases c2 : (!fle .f32 d' c) with
      | true => rw [c2] at h; exact h
      | false =>
        rw [c2] at hgo
        exact next ⟨by simp only; omega, by simp only; omega, hgo⟩ (Nat.lt_succ_self j)

end Go.Proofs.Ytfhpmcdbfebflaa

/- Plain: the numbers of turns in drawn shapes; shapes with nodes that change nothing; rays and marches. -/
set_option linter.unusedVariables false
set_option linter.unusedSimpArgs false
set_option maxRecDepth 100000
namespace Go.Proofs.Ytfhpmcdbfebflaa
open Go.Ev Go.Ev.Fl

theorem tab_sine : (List.range 17).all (fun j => sineOk (sixtV (Int.ofNat j - 8)) && sineOk (fsub .f32 1048576000 (sixtV (Int.ofNat j - 8)))) = true := by decide +kernel
theorem turn_ok {n : Int} (h : 0 ≤ n ∧ n < 17) : (sineOk (sixtV (n - 8)) && sineOk (fsub .f32 1048576000 (sixtV (n - 8)))) = true := by
  have := List.all_eq_true.1 tab_sine n.toNat (by simp; omega)
  have e : Int.ofNat n.toNat = n := Int.toNat_of_nonneg h.1
  rw [e] at this
  exact this
theorem turn_not {k : Int} (h : k ≠ 12) (xs : List Nat) : turnB k xs = true := by
  unfold turnB
  rw [beq_eq_false_iff_ne.2 h]
  rfl
theorem turn_nums (k : Int) {s : SrcD} (hb : bytes s.1) : turnB k (numsV k s) = true := by
  by_cases e : k = 12
  · subst e
    exact turn_ok (pickV_range (s := smallS s) ((far_small s).bytes hb) (n := 17) (by omega))
  · exact turn_not e _
theorem turns_iff {ns : ShapeD} : turnsB ns = true ↔ ∀ n ∈ ns, turnB n.1 n.2.2.2 = true := List.all_eq_true
theorem turns_snoc {ns : ShapeD} {n : NodeD} (h : turnsB ns = true) (hn : turnB n.1 n.2.2.2 = true) : turnsB (ns ++ [n]) = true := by
  rw [turns_iff] at h ⊢
  intro m hm
  rcases List.mem_append.1 hm with h1 | h1
  · exact h m h1
  · rw [List.mem_singleton.1 h1]; exact hn
theorem turns_shGo : ∀ (m : Nat) (q : ShD), turnsB q.1 = true → bytes q.2.2.1 → turnsB (shGo m q).1 = true
  | 0, _, h, _ => h
  | m + 1, q, h, hb => turns_shGo m (shStep q) (turns_snoc h (turn_nums _ ((far_T _ _).bytes hb))) ((far_node _ _).bytes hb)
theorem turns_clGo : ∀ (m : Nat) (q : ShD), turnsB q.1 = true → bytes q.2.2.1 → turnsB (clGo m q).1 = true
  | 0, _, h, _ => h
  | m + 1, q, h, hb => turns_clGo m (clStep q) (turns_snoc h (turn_not (by
      have r := pickV_range (s := q.2.2) hb (n := 3) (by omega)
      show 5 + pickV q.2.2 3 ≠ 12
      omega) _)) ((far_pick _ _).bytes hb)
theorem shape_okS {s : SrcD} (hb : bytes s.1) : okS (shapeV s) = true := by
  unfold okS
  rw [shape_ok hb, Bool.true_and]
  have h0 := sh0_ok hb
  have h1 := turns_shGo (1 + pickV s 7).toNat (sh0 s) rfl h0.b
  exact turns_clGo _ _ h1 (shGo_ok _ h0).b
theorem shape_stack {s : SrcD} (hb : bytes s.1) : Stack (shapeV s) [((shapeV s).length : Int) - 1] ∧ 1 ≤ (shapeV s).length := by
  obtain ⟨n, e, n1, n2, h, f1, f2⟩ := sh1_ok hb
  obtain ⟨h2, h3⟩ := clGo_ok ((sh1 s).2.1.length - 1) h (by omega)
  obtain ⟨r, hr⟩ := List.length_eq_one_iff.1 h3
  have hs := h2.st
  rw [hr] at hs
  have hl := h2.l
  have hne : (clGo ((sh1 s).2.1.length - 1) (sh1 s)).1 ≠ [] := fun e => by rw [e] at hl; simp at hl; omega
  have := hs.last hne
  have e2 : r = ((clGo ((sh1 s).2.1.length - 1) (sh1 s)).1.length : Int) - 1 := by simpa using this
  rw [e2] at hs
  exact ⟨hs, by show 1 ≤ (clGo ((sh1 s).2.1.length - 1) (sh1 s)).1.length; omega⟩

def exK : List Int := [9, 10, 11, 15]
def exKind (s : SrcD) : Int := (exK[(pickV s 4).toNat]?).getD 0
def exVal (k v : Int) : Nat := bif k == 10 || k == 11 then fadd .f32 (FloatKind.f32.nearest v) 1065353216 else FloatKind.f32.nearest v
abbrev ExD := ShapeD × SrcD
def exGoes (q : ExD) : Bool := decide (q.1.length < 16) && pickV q.2 2 == 0
def exAfter (q : ExD) : SrcD := bif decide (q.1.length < 16) then pickS q.2 2 else q.2
def exN (q : ExD) : NodeD := (exKind (pickS q.2 2), (q.1.length : Int) - 1, 0, List.replicate (kindN (exKind (pickS q.2 2))).toNat (exVal (exKind (pickS q.2 2)) (pickV (pickS (pickS q.2 2) 4) 2)))
def exStep (q : ExD) : ExD := (q.1 ++ [exN q], pickS (pickS (pickS q.2 2) 4) 2)
def exGo : Nat → ExD → ExD
  | 0, q => q
  | n + 1, q => bif exGoes q then exGo n (exStep q) else (q.1, exAfter q)
def ex0 (s : SrcD) : ExD := (shapeV s, shapeS s)
def exV (s : SrcD) : ShapeD := (exGo 16 (ex0 s)).1
def exS (s : SrcD) : SrcD := (exGo 16 (ex0 s)).2
structure ExOk (q : ExD) : Prop where
  st : Stack q.1 [(q.1.length : Int) - 1]
  b : bytes q.2.1
  lo : 1 ≤ q.1.length
  hi : q.1.length ≤ 16
  t : turnsB q.1 = true
theorem exKind_in {s : SrcD} (hb : bytes s.1) : exKind s = 9 ∨ exKind s = 10 ∨ exKind s = 11 ∨ exKind s = 15 := by
  have r := pickV_range (s := s) hb (n := 4) (by omega)
  unfold exKind
  rcases (by omega : (pickV s 4).toNat = 0 ∨ (pickV s 4).toNat = 1 ∨ (pickV s 4).toNat = 2 ∨ (pickV s 4).toNat = 3) with e | e | e | e <;> rw [e] <;> decide
theorem tab_ex : ([9, 10, 11, 15] : List Int).all (fun k => ([0, 1] : List Int).all fun v => numsB k (List.replicate (kindN k).toNat (exVal k v))) = true := by decide +kernel
theorem exN_ok {q : ExD} (h : ExOk q) : nodeB q.1.length (exN q) = true ∧ kidsN (exN q) = [(q.1.length : Int) - 1] ∧ turnB (exN q).1 (exN q).2.2.2 = true := by
  have b1 := (far_pick q.2 2).bytes h.b
  have b2 := (far_pick (pickS q.2 2) 4).bytes b1
  have hk := exKind_in b1
  have r := pickV_range b2 (n := 2) (by omega)
  have hv : pickV (pickS (pickS q.2 2) 4) 2 = 0 ∨ pickV (pickS (pickS q.2 2) 4) 2 = 1 := by omega
  have lo := h.lo
  unfold exN
  generalize exKind (pickS q.2 2) = k at *
  generalize pickV (pickS (pickS q.2 2) 4) 2 = v at *
  have hn : numsB k (List.replicate (kindN k).toNat (exVal k v)) = true := by
    have t1 := List.all_eq_true.1 tab_ex k (by rcases hk with e | e | e | e <;> rw [e] <;> decide)
    exact List.all_eq_true.1 t1 v (by rcases hv with e | e <;> rw [e] <;> decide)
  have hkid : kids k ((q.1.length : Int) - 1) 0 = [(q.1.length : Int) - 1] := by rcases hk with e | e | e | e <;> subst e <;> rfl
  have hax : axB k ((q.1.length : Int) - 1) 0 = true := by
    unfold axB
    have hc : decide (kindC k > 0) = true := by rcases hk with e | e | e | e <;> subst e <;> rfl
    have hc2 : (kindC k == 2) = false := by rcases hk with e | e | e | e <;> subst e <;> rfl
    rw [hc, hc2]
    rfl
  refine ⟨?_, hkid, turn_not (by omega) _⟩
  unfold nodeB
  simp only
  rw [hn, hax, show kidsN (k, (q.1.length : Int) - 1, 0, List.replicate (kindN k).toNat (exVal k v)) = [(q.1.length : Int) - 1] from hkid]
  simp only [List.all_cons, List.all_nil, Bool.and_true, Bool.true_and]
  exact inR_iff.2 (by omega)
theorem exStep_ok {q : ExD} (h : ExOk q) (hl : q.1.length < 16) : ExOk (exStep q) := by
  obtain ⟨h1, h2, h3⟩ := exN_ok h
  have hlen : (exStep q).1.length = q.1.length + 1 := by show (q.1 ++ [_]).length = _; simp
  refine ⟨?_, (far_pick _ 2).bytes ((far_pick _ 4).bytes ((far_pick _ 2).bytes h.b)), by omega, by omega, turns_snoc h.t h3⟩
  rw [hlen, show ((q.1.length + 1 : Nat) : Int) - 1 = (q.1.length : Int) by omega]
  have := h.st.push (rest := []) (by rw [h2]; rfl) h1
  exact this
theorem exGo_ok : ∀ (n : Nat) {q : ExD}, ExOk q → ExOk (exGo n q)
  | 0, _, h => h
  | n + 1, q, h => by
    have hs : exGo (n + 1) q = bif exGoes q then exGo n (exStep q) else (q.1, exAfter q) := rfl
    rw [hs]
    cases e : exGoes q with
    | true =>
      unfold exGoes at e
      simp only [Bool.and_eq_true, decide_eq_true_eq] at e
      exact exGo_ok n (exStep_ok h e.1)
    | false =>
      refine ⟨h.st, ?_, h.lo, h.hi, h.t⟩
      show bytes (exAfter q).1
      unfold exAfter
      cases decide (q.1.length < 16)
      · exact h.b
      · exact (far_pick q.2 2).bytes h.b
theorem ex0_ok {s : SrcD} (hb : bytes s.1) : ExOk (ex0 s) := by
  obtain ⟨h1, h2⟩ := shape_stack hb
  have h3 := shape_okS hb
  obtain ⟨g1, g2, g3, g4⟩ := okS_good h3
  unfold okS at h3
  simp only [Bool.and_eq_true] at h3
  exact ⟨h1, (far_shape hb).bytes hb, h2, g4, h3.2⟩
theorem ex_okS {s : SrcD} (hb : bytes s.1) : okS (exV s) = true := by
  have h := exGo_ok 16 (ex0_ok hb)
  unfold okS
  rw [show validS (exV s) = true from h.st.valid h.lo h.hi, show turnsB (exV s) = true from h.t]
  rfl

end Go.Proofs.Ytfhpmcdbfebflaa

/- What the laws draw: shapes with nodes that change nothing, rays, marches: walks. -/
set_option linter.unusedVariables false
set_option linter.unusedSimpArgs false
set_option maxRecDepth 100000
namespace Go.Proofs.Ytfhpmcdbfebflaa
open Go.Ev Go.Ev.Fl

noncomputable def a_spec_l05DrawShape : Nat → Option Ann := fun n => bif Nat.beq n 2 then some ⟨[0,2,3],1,true⟩ else bif Nat.beq n 8 then some ⟨[0,2,3,4,5,6],1,true⟩ else none
noncomputable def c_spec_l05DrawShape : Ctx := mkC Try.prog tyT [(129, s_spec_l02Count)] [] [(82, s_spec_l02DrawOk), (127, s_spec_l00Src_one), (70, s_spec_l00Src_pick)] 58 a_spec_l05DrawShape 1 false [] false true true [(128, s_spec_l00Src_among)]
noncomputable def gp_spec_l05DrawShape : List (List (Option Ty)) := List.map giveR [.agg [.own tN]]
noncomputable def fr_spec_l05DrawShape_2 (s : SrcD) (ns : List NodeD) : Fr := [(0, .ptr 0 0), (2, .ptr 1 0), (3, .ptr 2 0)]
noncomputable def hp_spec_l05DrawShape_2 (s : SrcD) (ns : List NodeD) : Heap := [.box (enc tSrc s), .box [.nils], .box [.obj 3 0], .sl 0 tN ns]
theorem r_spec_l05DrawShape_2 (s : SrcD) (ns : List NodeD) (Kn : Fr → Heap → Prop) (K : V → Heap → Prop) : round c_spec_l05DrawShape ⟨[0,2,3],1,true⟩ (lb c_spec_l05DrawShape 2 Try.f68) (fr_spec_l05DrawShape_2 s ns) (hp_spec_l05DrawShape_2 s ns) Kn (lkG gp_spec_l05DrawShape c_spec_l05DrawShape 2 Try.f68 [.box []] K) =
 cond (decide ((↑(List.length ns) : Int) < 16))
 (cond (srcIn 6 s)
 (cond (pickV s 2 == 0)
 (cond (srcIn 6 (pickS s 2) && decide (1 ≤ 4))
 (cond (srcIn 6 (pickS (pickS s 2) (↑4 : Int)))
 (cond (Option.getD [(9 : Int), (10 : Int), (11 : Int), (15 : Int)][Int.toNat (pickV (pickS s (2 : Int)) (↑(4 : Nat) : Int))]? (0 : Int) == (10 : Int))
 (LoopE c_spec_l05DrawShape ⟨[0, 2, 3, 4, 5, 6], 1, true⟩ (pathB c_spec_l05DrawShape [2, 8] (bodyOf Try.f68)) [(0, (.ptr 0 0)), (2, (.ptr 1 0)), (3, (.ptr 2 0)), (4, (.ptr 3 0)), (5, (.float .f32 (fadd FloatKind.f32 (FloatKind.nearest FloatKind.f32 (pickV (pickS (pickS s 2) (↑4 : Int)) 2)) 1065353216))), (6, (.int .i64 (kindN (Option.getD [(9 : Int), (10 : Int), (11 : Int), (15 : Int)][Int.toNat (pickV (pickS s (2 : Int)) (↑(4 : Nat) : Int))]? (0 : Int)))))] [(.box [(.vec (.int .u8) (Prod.fst (pickS (pickS (pickS s 2) (↑4 : Int)) 2))), (.int .i64 (Prod.fst (Prod.snd (pickS (pickS (pickS s 2) (↑4 : Int)) 2)))), (.int .u64 (Prod.snd (Prod.snd (pickS (pickS (pickS s 2) (↑4 : Int)) 2))))]), (.box [.nils]), (.box [(.obj 4 0)]), (.box [(.int .i64 (Option.getD [(9 : Int), (10 : Int), (11 : Int), (15 : Int)][Int.toNat (pickV (pickS s (2 : Int)) (↑(4 : Nat) : Int))]? (0 : Int))), (.int .i64 (IntKind.wrap IntKind.i64 ((↑(List.length ns) : Int) - 1))), (.int .i64 0), .nils]), (.sl 0 tN (ns))] (pathK c_spec_l05DrawShape [(2, ⟨[0,2,3],1,true⟩, Kn)] 8 (bodyOf Try.f68) (kFnG gp_spec_l05DrawShape c_spec_l05DrawShape Try.f68 [.box []] K)))
 (cond (Option.getD [(9 : Int), (10 : Int), (11 : Int), (15 : Int)][Int.toNat (pickV (pickS s (2 : Int)) (↑(4 : Nat) : Int))]? (0 : Int) == (11 : Int))
 (LoopE c_spec_l05DrawShape ⟨[0, 2, 3, 4, 5, 6], 1, true⟩ (pathB c_spec_l05DrawShape [2, 8] (bodyOf Try.f68)) [(0, (.ptr 0 0)), (2, (.ptr 1 0)), (3, (.ptr 2 0)), (4, (.ptr 3 0)), (5, (.float .f32 (fadd FloatKind.f32 (FloatKind.nearest FloatKind.f32 (pickV (pickS (pickS s 2) (↑4 : Int)) 2)) 1065353216))), (6, (.int .i64 (kindN (Option.getD [(9 : Int), (10 : Int), (11 : Int), (15 : Int)][Int.toNat (pickV (pickS s (2 : Int)) (↑(4 : Nat) : Int))]? (0 : Int)))))] [(.box [(.vec (.int .u8) (Prod.fst (pickS (pickS (pickS s 2) (↑4 : Int)) 2))), (.int .i64 (Prod.fst (Prod.snd (pickS (pickS (pickS s 2) (↑4 : Int)) 2)))), (.int .u64 (Prod.snd (Prod.snd (pickS (pickS (pickS s 2) (↑4 : Int)) 2))))]), (.box [.nils]), (.box [(.obj 4 0)]), (.box [(.int .i64 (Option.getD [(9 : Int), (10 : Int), (11 : Int), (15 : Int)][Int.toNat (pickV (pickS s (2 : Int)) (↑(4 : Nat) : Int))]? (0 : Int))), (.int .i64 (IntKind.wrap IntKind.i64 ((↑(List.length ns) : Int) - 1))), (.int .i64 0), .nils]), (.sl 0 tN (ns))] (pathK c_spec_l05DrawShape [(2, ⟨[0,2,3],1,true⟩, Kn)] 8 (bodyOf Try.f68) (kFnG gp_spec_l05DrawShape c_spec_l05DrawShape Try.f68 [.box []] K)))
 (LoopE c_spec_l05DrawShape ⟨[0, 2, 3, 4, 5, 6], 1, true⟩ (pathB c_spec_l05DrawShape [2, 8] (bodyOf Try.f68)) [(0, (.ptr 0 0)), (2, (.ptr 1 0)), (3, (.ptr 2 0)), (4, (.ptr 3 0)), (5, (.float .f32 (FloatKind.nearest FloatKind.f32 (pickV (pickS (pickS s 2) (↑4 : Int)) 2)))), (6, (.int .i64 (kindN (Option.getD [(9 : Int), (10 : Int), (11 : Int), (15 : Int)][Int.toNat (pickV (pickS s (2 : Int)) (↑(4 : Nat) : Int))]? (0 : Int)))))] [(.box [(.vec (.int .u8) (Prod.fst (pickS (pickS (pickS s 2) (↑4 : Int)) 2))), (.int .i64 (Prod.fst (Prod.snd (pickS (pickS (pickS s 2) (↑4 : Int)) 2)))), (.int .u64 (Prod.snd (Prod.snd (pickS (pickS (pickS s 2) (↑4 : Int)) 2))))]), (.box [.nils]), (.box [(.obj 4 0)]), (.box [(.int .i64 (Option.getD [(9 : Int), (10 : Int), (11 : Int), (15 : Int)][Int.toNat (pickV (pickS s (2 : Int)) (↑(4 : Nat) : Int))]? (0 : Int))), (.int .i64 (IntKind.wrap IntKind.i64 ((↑(List.length ns) : Int) - 1))), (.int .i64 0), .nils]), (.sl 0 tN (ns))] (pathK c_spec_l05DrawShape [(2, ⟨[0,2,3],1,true⟩, Kn)] 8 (bodyOf Try.f68) (kFnG gp_spec_l05DrawShape c_spec_l05DrawShape Try.f68 [.box []] K)))))
 (False))
 (False))
 (K (.agg [(.obj 1 0)]) [(.box [(.vec (.int .u8) (Prod.fst (pickS s 2))), (.int .i64 (Prod.fst (Prod.snd (pickS s 2)))), (.int .u64 (Prod.snd (Prod.snd (pickS s 2))))]), (.sl 0 tN (ns))]))
 (False))
 (K (.agg [(.obj 1 0)]) [(.box [(.vec (.int .u8) (Prod.fst s)), (.int .i64 (Prod.fst (Prod.snd s))), (.int .u64 (Prod.snd (Prod.snd s)))]), (.sl 0 tN (ns))]) := by kernel_rfl
noncomputable def fr_spec_l05DrawShape_8 (s : SrcD) (ns : List NodeD) (k a : Int) (v : Nat) (xs : List Nat) (c m : Int) : Fr := [(0, .ptr 0 0), (2, .ptr 1 0), (3, .ptr 2 0), (4, .ptr 3 0), (5, .float .f32 v), (6, .int .i64 c)]
noncomputable def hp_spec_l05DrawShape_8 (s : SrcD) (ns : List NodeD) (k a : Int) (v : Nat) (xs : List Nat) (c m : Int) : Heap := (match m with | 0 => [.box (enc tSrc s), .box [.nils], .box [.obj 4 0], .box [.int .i64 k, .int .i64 a, .int .i64 0, .nils], .sl 0 tN ns] | _ => [.box (enc tSrc s), .box [.nils], .box [.obj 4 0], .box [.int .i64 k, .int .i64 a, .int .i64 0, .obj 5 0], .sl 0 tN ns, .sl 0 tF xs])
theorem r_spec_l05DrawShape_8_0 (s : SrcD) (ns : List NodeD) (k a : Int) (v : Nat) (xs : List Nat) (c : Int) (Kn2 : Fr → Heap → Prop) (Kn : Fr → Heap → Prop) (K : V → Heap → Prop) : round c_spec_l05DrawShape ⟨[0,2,3,4,5,6],1,true⟩ (pathB c_spec_l05DrawShape [2, 8] (bodyOf Try.f68)) (fr_spec_l05DrawShape_8 s ns k a v xs c (0 : Int)) (hp_spec_l05DrawShape_8 s ns k a v xs c (0 : Int)) Kn (pathK c_spec_l05DrawShape [(2, ⟨[0,2,3],1,true⟩, Kn2)] 8 (bodyOf Try.f68) (kFnG gp_spec_l05DrawShape c_spec_l05DrawShape Try.f68 [.box []] K)) =
 cond (decide (c > 0))
 (Kn [(0, (.ptr 0 0)), (2, (.ptr 1 0)), (3, (.ptr 2 0)), (4, (.ptr 3 0)), (5, (.float .f32 (v))), (6, (.int .i64 (IntKind.wrap IntKind.i64 (c - 1))))] [(.box [(.vec (.int .u8) (Prod.fst s)), (.int .i64 (Prod.fst (Prod.snd s))), (.int .u64 (Prod.snd (Prod.snd s)))]), (.box [.nils]), (.box [(.obj 4 0)]), (.box [(.int .i64 (k)), (.int .i64 (a)), (.int .i64 0), (.obj 5 0)]), (.sl 0 tN (ns)), (.sl 0 (.float .f32) ([v]))])
 (cond (decide ((List.length ns + 1) * 48 ≤ 140737488355328))
 (Kn2 [(0, (.ptr 0 0)), (2, (.ptr 1 0)), (3, (.ptr 2 0))] [(.box [(.vec (.int .u8) (Prod.fst s)), (.int .i64 (Prod.fst (Prod.snd s))), (.int .u64 (Prod.snd (Prod.snd s)))]), (.box [.nils]), (.box [(.obj 3 0)]), (.sl 0 tN (ns ++ [(k, a, (0 : Int), [])]))])
 (False)) := by kernel_rfl
theorem r_spec_l05DrawShape_8_1 (s : SrcD) (ns : List NodeD) (k a : Int) (v : Nat) (xs : List Nat) (c : Int) (Kn2 : Fr → Heap → Prop) (Kn : Fr → Heap → Prop) (K : V → Heap → Prop) : round c_spec_l05DrawShape ⟨[0,2,3,4,5,6],1,true⟩ (pathB c_spec_l05DrawShape [2, 8] (bodyOf Try.f68)) (fr_spec_l05DrawShape_8 s ns k a v xs c (1 : Int)) (hp_spec_l05DrawShape_8 s ns k a v xs c (1 : Int)) Kn (pathK c_spec_l05DrawShape [(2, ⟨[0,2,3],1,true⟩, Kn2)] 8 (bodyOf Try.f68) (kFnG gp_spec_l05DrawShape c_spec_l05DrawShape Try.f68 [.box []] K)) =
 cond (decide (c > 0))
 (cond (decide ((List.length xs + 1) * 4 ≤ 140737488355328))
 (Kn [(0, (.ptr 0 0)), (2, (.ptr 1 0)), (3, (.ptr 2 0)), (4, (.ptr 3 0)), (5, (.float .f32 (v))), (6, (.int .i64 (IntKind.wrap IntKind.i64 (c - 1))))] [(.box [(.vec (.int .u8) (Prod.fst s)), (.int .i64 (Prod.fst (Prod.snd s))), (.int .u64 (Prod.snd (Prod.snd s)))]), (.box [.nils]), (.box [(.obj 4 0)]), (.box [(.int .i64 (k)), (.int .i64 (a)), (.int .i64 0), (.obj 5 0)]), (.sl 0 tN (ns)), (.sl 0 (.float .f32) (xs ++ [v]))])
 (False))
 (cond (decide ((List.length ns + 1) * 48 ≤ 140737488355328))
 (Kn2 [(0, (.ptr 0 0)), (2, (.ptr 1 0)), (3, (.ptr 2 0))] [(.box [(.vec (.int .u8) (Prod.fst s)), (.int .i64 (Prod.fst (Prod.snd s))), (.int .u64 (Prod.snd (Prod.snd s)))]), (.box [.nils]), (.box [(.obj 3 0)]), (.sl 0 tN (ns ++ [(k, a, (0 : Int), xs)]))])
 (False)) := by kernel_rfl
theorem w_spec_l05DrawShape (s : SrcD) (K : V → Heap → Prop) : wpFnG gp_spec_l05DrawShape c_spec_l05DrawShape Try.f68 (.ptr 0 0 :: encAs [] ()) [.box (enc tSrc s)] K =
 cond (inS 500000 s)
 (LoopE c_spec_l05DrawShape ⟨[0, 2, 3], 1, true⟩ (lb c_spec_l05DrawShape 2 Try.f68) [(0, (.ptr 0 0)), (2, (.ptr 1 0)), (3, (.ptr 2 0))] [(.box [(.vec (.int .u8) (Prod.fst (shapeS s))), (.int .i64 (Prod.fst (Prod.snd (shapeS s)))), (.int .u64 (Prod.snd (Prod.snd (shapeS s))))]), (.box [.nils]), (.box [(.obj 3 0)]), (.sl 0 tN (shapeV s))] (lkG gp_spec_l05DrawShape c_spec_l05DrawShape 2 Try.f68 [.box []] K))
 (False) := by kernel_rfl
noncomputable def s_spec_l05DrawShape : Sm := semPG tSrc [] [.agg [.own tN]] (fun s x => match x with | _ => inS 300000 s) fun s x => match x with | _ => (((exV s, ()), ()), exS s)
theorem ok_spec_l05DrawShape : FnOkL Try.prog 68 s_spec_l05DrawShape := fnOkO_boxg (fnOkO_runG (C := c_spec_l05DrawShape) gp_spec_l05DrawShape rfl mixed (.cons ok_spec_l02Count .nil) .nil (.cons ok_spec_l02DrawOk (.cons ok_spec_l00Src_one (.cons ok_spec_l00Src_pick .nil))) Try.func68 (by kernel_rfl) (h5 := (.cons ok_spec_l00Src_among (by first | exact semP_localE _ _ _ _ | exact semPG_localE _ _ _ _ _ | exact semV_localE _ _ _ _) .nil))) rfl fun (s : SrcD) (x : Unit) ws wf hg K h => by
  obtain ⟨⟩ := x
  replace hg : (inS 300000 s) = true := hg
  replace h : K (tup (valRs [.agg [.own tN]] (((exV s, ()), ())) 1)) (.box (enc tSrc (exS s)) :: thRs [.agg [.own tN]] (((exV s, ()), ()))) := h
  rw [w_spec_l05DrawShape s  K]
  have hb : bytes s.1 := bytes_of ws.1
  have g5 : inS 500000 s = true := (Far.refl s).ok hg (by omega)
  have o0 := ex0_ok hb
  rw [g5, cond_true]
  unfold exV exS at h
  refine loop_run (σ := Nat × ExD) (fun r => fr_spec_l05DrawShape_2 s []) (fun r => hp_spec_l05DrawShape_2 r.2.2 r.2.1) (fun r => ExOk r.2 ∧ 17 ≤ r.2.1.length + r.1 ∧ r.1 ≤ 16 ∧ Far s r.2.2 (210 + 6 * ((16 : Int) - (r.1 : Int))) ∧ exGo r.1 r.2 = exGo 16 (ex0 s)) (fun r => r.1) ?_ (16, ex0 s) ⟨o0, by have := o0.lo; simp only; omega, by simp only; omega, (far_shape hb).mono (by simp only; omega), rfl⟩
  rintro ⟨n, ns, u⟩ ⟨ho, hn, hn2, hf, hgo⟩ Kn hk
  simp only at ho hn hn2 hf hgo hk ⊢
  rw [← hgo] at h
  rw [show fr_spec_l05DrawShape_2 s [] = fr_spec_l05DrawShape_2 u ns from rfl, r_spec_l05DrawShape_2 u ns Kn K]
  have hlo := ho.lo
  have hhi := ho.hi
  simp only at hlo hhi
  cases n with
  | zero => omega
  | succ n =>
  have hs : exGo (n + 1) (ns, u) = bif exGoes (ns, u) then exGo n (exStep (ns, u)) else (ns, exAfter (ns, u)) := rfl
  rw [hs] at h hgo
  by_cases h16 : ns.length < 16
  · have gu : inS 400000 u = true := hf.ok hg (by omega)
    have g1 : srcIn 6 u = true := inS_src gu (by omega) 6 (by omega)
    have F1 := far_pick u 2
    have F2 := F1.trans (far_pick (pickS u 2) 4)
    have F3 := F2.trans (far_pick (pickS (pickS u 2) 4) 2)
    have g2 : srcIn 6 (pickS u 2) = true := inS_src (F1.ok gu (m := 400002) (by omega)) (by omega) 6 (by omega)
    have g3 : srcIn 6 (pickS (pickS u 2) 4) = true := inS_src (F2.ok gu (m := 400004) (by omega)) (by omega) 6 (by omega)
    rw [d_t (show (ns.length : Int) < 16 by omega), g1, cond_true, cond_true]
    cases hp : (pickV u 2 == 0) with
    | false =>
      have e : exGoes (ns, u) = false := by unfold exGoes; simp only [hp, Bool.and_false]
      have e2 : exAfter (ns, u) = pickS u 2 := by unfold exAfter; simp only [d_t h16, cond_true]
      rw [e, e2] at h
      exact h
    | true =>
      have e : exGoes (ns, u) = true := by unfold exGoes; simp only [hp, d_t h16, Bool.and_self]
      rw [e] at hgo
      have b1 := F1.bytes ho.b
      have b2 := F2.bytes ho.b
      have hkk := exKind_in b1
      have hex : ((([9, 10, 11, 15] : List Int)[(pickV (pickS u 2) 4).toNat]?).getD 0) = exKind (pickS u 2) := rfl
      have r2 := pickV_range b2 (n := 2) (by omega)
      have hw : IntKind.i64.wrap ((ns.length : Int) - 1) = (ns.length : Int) - 1 := i64_of (by omega) (by omega)
      have next := hk (n, exStep (ns, u)) ⟨exStep_ok ho h16, by show 17 ≤ (ns ++ [_]).length + n; simp only [List.length_append, List.length_singleton]; omega, by simp only; omega, (hf.trans F3).mono (by simp only; omega), hgo⟩ (Nat.lt_succ_self n)
      have hst : exStep (ns, u) = (ns ++ [exN (ns, u)], pickS (pickS (pickS u 2) 4) 2) := rfl
      rw [hst] at next
      unfold exN at next
      simp only at next
      have hc4 : ((4 : Nat) : Int) = 4 := rfl
      simp only [hex, hc4, g2, g3, hw, Bool.and_self, decide_true, cond_true, show decide (1 ≤ 4) = true from rfl]
      clear hk hgo hs h
      generalize exKind (pickS u 2) = k at *
      generalize pickV (pickS (pickS u 2) 4) 2 = v at *
      generalize pickS (pickS (pickS u 2) 4) 2 = t at *
      have hkn : 1 ≤ kindN k ∧ kindN k ≤ 4 := by rcases hkk with e | e | e | e <;> subst e <;> decide
      have inner : ∀ x : Nat, x = exVal k v → LoopE c_spec_l05DrawShape ⟨[0, 2, 3, 4, 5, 6], 1, true⟩ (pathB c_spec_l05DrawShape [2, 8] (bodyOf Try.f68)) (fr_spec_l05DrawShape_8 t ns k ((ns.length : Int) - 1) x [] (kindN k) 0) (hp_spec_l05DrawShape_8 t ns k ((ns.length : Int) - 1) x [] (kindN k) 0) (pathK c_spec_l05DrawShape [(2, ⟨[0, 2, 3], 1, true⟩, Kn)] 8 (bodyOf Try.f68) (kFnG gp_spec_l05DrawShape c_spec_l05DrawShape Try.f68 [.box []] K)) := by
        intro x hx
        rw [← hx] at next
        clear hx
        obtain ⟨m, hm⟩ : ∃ m : Nat, kindN k = (m : Int) := ⟨(kindN k).toNat, by omega⟩
        rw [hm] at hkn next ⊢
        rw [Int.toNat_natCast] at next
        refine loop_run (σ := Nat × Int) (fun q => fr_spec_l05DrawShape_8 t ns k ((ns.length : Int) - 1) x [] q.2 0) (fun q => match q.1 with | 0 => hp_spec_l05DrawShape_8 t ns k ((ns.length : Int) - 1) x [] q.2 0 | j + 1 => hp_spec_l05DrawShape_8 t ns k ((ns.length : Int) - 1) x (List.replicate (j + 1) x) q.2 1) (fun q => q.1 ≤ m ∧ q.2 = (m : Int) - q.1) (fun q => m - q.1) ?_ (0, (m : Int)) ⟨Nat.zero_le _, by simp only; omega⟩
        rintro ⟨j, c⟩ ⟨hj, hjc⟩ Kn' hk'
        simp only at hj hjc hk' ⊢
        cases j with
        | zero =>
          simp only
          refine Eq.mpr (r_spec_l05DrawShape_8_0 t ns k ((ns.length : Int) - 1) x [] c Kn Kn' K) ?_
          rw [d_t (show c > 0 by omega), i64_of (n := c - 1) (by omega) (by omega)]
          exact hk' (1, c - 1) ⟨by simp only; omega, by simp only; omega⟩ (by simp only; omega)
        | succ j =>
          simp only
          refine Eq.mpr (r_spec_l05DrawShape_8_1 t ns k ((ns.length : Int) - 1) x (List.replicate (j + 1) x) c Kn Kn' K) ?_
          by_cases hlt : j + 1 < m
          · rw [d_t (show c > 0 by omega), i64_of (n := c - 1) (by omega) (by omega), d_t (show ((List.replicate (j + 1) x).length + 1) * 4 ≤ 140737488355328 by rw [List.length_replicate]; omega)]
            have := hk' (j + 1 + 1, c - 1) ⟨by simp only; omega, by simp only; omega⟩ (by simp only; omega)
            simp only at this
            rw [List.replicate_succ' (n := j + 1)] at this
            exact this
          · have ej : j + 1 = m := by omega
            rw [d_f (show ¬ c > 0 by omega), d_t (show (ns.length + 1) * 48 ≤ 140737488355328 by omega), ej]
            exact next
      cases c1 : (k == 10) with
      | true => exact inner _ (by unfold exVal; rw [c1]; rfl)
      | false =>
        cases c2 : (k == 11) with
        | true => exact inner _ (by unfold exVal; rw [c1, c2]; rfl)
        | false => exact inner _ (by unfold exVal; rw [c1, c2]; rfl)
  · have e : exGoes (ns, u) = false := by unfold exGoes; simp only [d_f h16, Bool.false_and]
    have e2 : exAfter (ns, u) = u := by unfold exAfter; simp only [d_f h16, cond_false]
    rw [e, e2] at h
    rw [d_f (show ¬ (ns.length : Int) < 16 by omega)]
    exact h

noncomputable def c_spec_B10Shape : Ctx := mkC Try.prog tyT [] [] [(67, s_spec_l00From), (68, s_spec_l05DrawShape)] 8 (fun _ => none) 0
theorem w_spec_B10Shape (xs : List Int) (K : V → Heap → Prop) : wpFn c_spec_B10Shape Try.f13 (encAs [.cell tB] (xs, ())) [] K =
 cond (inS 300000 (xs, 0, 0))
 (K (.agg [(.vec tN (exV (xs, 0, 0)))]) [])
 (False) := by kernel_rfl
noncomputable def s_spec_B10Shape : Sm := semT [.cell tB] fun x => match x with | (xs, _) => .agg [.vec tN (exV (xs, 0, 0))]
theorem ok_spec_B10Shape : FnOk Try.prog 13 s_spec_B10Shape := fnOk_typed (fnOk_runC (C := c_spec_B10Shape) rfl mixed .nil .nil (.cons ok_spec_l00From (.cons ok_spec_l05DrawShape .nil)) Try.func13 (by kernel_rfl)) fun (x : ((List Int) × Unit)) wf K h => by
  obtain ⟨xs, ⟨⟩⟩ := x
  replace h : K (.agg [.vec tN (exV (xs, 0, 0))]) [] := h
  rw [w_spec_B10Shape xs K]
  exact cond_yes (by rw [inS_iff]; exact ⟨Int.le_refl _, by show (0 : Int) ≤ _; decide⟩) h

end Go.Proofs.Ytfhpmcdbfebflaa

/- What the laws of the first kind draw: rays, marches, numbers by index. -/
set_option linter.unusedVariables false
set_option linter.unusedSimpArgs false
set_option maxRecDepth 100000
namespace Go.Proofs.Ytfhpmcdbfebflaa
open Go.Ev Go.Ev.Fl

noncomputable def c_laws_b10Long : Ctx := mkC Try.prog tyT [] [] [] 13 (fun _ => none) 0
theorem w_laws_b10Long (xs ys : List Int) (K : V → Heap → Prop) : wpFn c_laws_b10Long Try.f12 (encAs [.cell tB, .cell tB] (xs, ys, ())) [] K =
 cond (decide ((↑(List.length xs) : Int) > 1048576))
 (K (.bool true) [])
 (K (.bool (decide ((↑(List.length ys) : Int) > 1048576))) []) := by kernel_rfl
noncomputable def s_laws_b10Long : Sm := semT [.cell tB, .cell tB] fun x => match x with | (xs, ys, _) => .bool (decide (1048576 < xs.length) || decide (1048576 < ys.length))
theorem ok_laws_b10Long : FnOk Try.prog 12 s_laws_b10Long := fnOk_typed (fnOk_runC (C := c_laws_b10Long) rfl mixed .nil .nil .nil Try.func12 (by kernel_rfl)) fun (x : ((List Int) × (List Int) × Unit)) wf K h => by
  obtain ⟨xs, ys, ⟨⟩⟩ := x
  replace h : K (.bool (decide (1048576 < xs.length) || decide (1048576 < ys.length))) [] := h
  rw [w_laws_b10Long xs ys K]
  have e : ∀ n : Nat, decide ((n : Int) > 1048576) = decide (1048576 < n) := fun n => decide_eq_decide.2 (by omega)
  rw [e, e]
  cases h1 : decide (1048576 < xs.length) <;> rw [h1] at h <;> exact h

def bAtV (xs : List Int) (i n : Int) : Int := bif decide (n ≤ 1) then 0 else bif decide (i < (xs.length : Int)) then ((xs[i.toNat]?).getD 0).tmod n else (i * 37 + 11).tmod n
noncomputable def c_laws_b10At : Ctx := mkC Try.prog tyT [] [] [] 25 (fun _ => none) 0
theorem w_laws_b10At (xs : List Int) (i n : Int) (K : V → Heap → Prop) : wpFn c_laws_b10At Try.f19 (encAs [.cell tB, .cell (.int .i64), .cell (.int .i64)] (xs, i, n, ())) [] K =
  cond (decide (n ≤ 1))
    (K (.int .i64 0) [])
    (cond (decide (i < (↑(List.length xs) : Int)))
      (cond (decide (0 ≤ i))
        ((match xs[Int.toNat i]? with
          | some y0 => cond (n == 0)
            (False)
            (K (.int .i64 (Int.tmod (IntKind.wrap IntKind.i64 y0) n)) [])
          | none => False))
        (False))
      (cond (n == 0)
        (False)
        (K (.int .i64 (Int.tmod (IntKind.wrap IntKind.i64 (IntKind.wrap IntKind.i64 (i * 37) + 11)) n)) []))) := by kernel_rfl
noncomputable def s_laws_b10At : Sm := semG [.cell tB, .cell (.int .i64), .cell (.int .i64)] (fun x => match x with | (xs, i, n, _) => decide (0 ≤ i) && decide (i ≤ 1000)) fun x => match x with | (xs, i, n, _) => .int .i64 (bAtV xs i n)
theorem ok_laws_b10At : FnOk Try.prog 19 s_laws_b10At := fnOk_typedG (fnOk_runC (C := c_laws_b10At) rfl mixed .nil .nil .nil Try.func19 (by kernel_rfl)) fun (x : ((List Int) × (Int) × (Int) × Unit)) wf hg K h => by
  obtain ⟨xs, i, n, ⟨⟩⟩ := x
  replace hg : (decide (0 ≤ i) && decide (i ≤ 1000)) = true := hg
  replace h : K (.int .i64 (bAtV xs i n)) [] := h
  rw [w_laws_b10At xs i n K]
  simp only [Bool.and_eq_true, decide_eq_true_eq] at hg
  unfold bAtV at h
  by_cases h1 : n ≤ 1
  · rw [d_t h1] at h ⊢; exact h
  · rw [d_f h1] at h ⊢
    simp only [cond_false] at h ⊢
    rw [beq_eq_false_iff_ne.2 (show n ≠ 0 by omega)]
    by_cases h2 : i < (xs.length : Int)
    · rw [d_t h2] at h ⊢
      have hl : i.toNat < xs.length := by omega
      rw [d_t hg.1, get_lt hl] at *
      have hb := bytes_of wf.1 _ (List.getElem_mem hl)
      simp only [cond_true, cond_false, Option.getD_some] at h ⊢
      rw [i64_of (by omega) (by omega)]
      exact h
    · rw [d_f h2] at h ⊢
      rw [i64_of (n := i * 37) (by omega) (by omega), i64_of (by omega) (by omega)]
      exact h

theorem bAt_range {xs : List Int} (hb : bytes xs) {i n : Int} (hi : 0 ≤ i) (hn : 1 ≤ n) : 0 ≤ bAtV xs i n ∧ bAtV xs i n < n := by
  unfold bAtV
  by_cases h1 : n ≤ 1
  · rw [d_t h1]; simp only [cond_true]; omega
  · rw [d_f h1]
    simp only [cond_false]
    have pos : ∀ x : Int, 0 ≤ x → 0 ≤ x.tmod n ∧ x.tmod n < n := fun x hx => ⟨Int.tmod_nonneg _ hx, Int.tmod_lt_of_pos _ (by omega)⟩
    cases decide (i < (xs.length : Int)) with
    | false => exact pos _ (by omega)
    | true =>
      refine pos _ ?_
      cases e : xs[i.toNat]? with
      | none => simp
      | some b => exact (hb b (List.mem_of_getElem? e)).1

theorem all_range {N : Nat} {p : Int → Bool} (h : (List.range N).all (fun j => p (Int.ofNat j)) = true) {n : Int} (hn : 0 ≤ n ∧ n < N) : p n = true := by
  have := List.all_eq_true.1 h n.toNat (by simp; omega)
  have e : Int.ofNat n.toNat = n := Int.toNat_of_nonneg hn.1
  rw [e] at this
  exact this
end Go.Proofs.Ytfhpmcdbfebflaa

/- Parts, depths and leaves of shapes: walks. -/
set_option linter.unusedVariables false
set_option linter.unusedSimpArgs false
set_option maxRecDepth 100000
namespace Go.Proofs.Ytfhpmcdbfebflaa
open Go.Ev Go.Ev.Fl

def dI (ds : List Int) (c : Int) : Int := (ds[c.toNat]?).getD 0
def dMax (ds cs : List Int) : Int := cs.foldl (fun m c => max m (dI ds c)) 0
def dpL (ns : ShapeD) : Nat → List Int
  | 0 => []
  | i + 1 => dpL ns i ++ [dMax (dpL ns i) (kidsN (nodeAt ns i)) + 1]
def markK (bs : List Bool) (cs : List Int) : List Bool := cs.foldl (fun b c => b.set c.toNat true) bs
theorem markK_len : ∀ (cs : List Int) (bs : List Bool), (markK bs cs).length = bs.length
  | [], _ => rfl
  | c :: cs, bs => by
    show (markK (bs.set c.toNat true) cs).length = _
    rw [markK_len cs, List.length_set]
def belGo (ns : ShapeD) : Nat → List Bool → List Bool
  | 0, bs => bs
  | i + 1, bs => belGo ns i (bif (bs[i]?).getD false then markK bs (kidsN (nodeAt ns i)) else bs)
def belV (ns : ShapeD) (node : Int) : List Bool := belGo ns ns.length ((List.replicate ns.length false).set node.toNat true)

end Go.Proofs.Ytfhpmcdbfebflaa

/- Parts of shapes: walks. -/
set_option linter.unusedVariables false
set_option linter.unusedSimpArgs false
set_option maxRecDepth 100000
namespace Go.Proofs.Ytfhpmcdbfebflaa
open Go.Ev Go.Ev.Fl

def keepN (pl : List Int) (n : NodeD) : NodeD := (n.1, (bif !inR n.1 0 4 then dI pl n.2.1 else n.2.1), (bif inR n.1 5 8 then dI pl n.2.2.1 else n.2.2.1), n.2.2.2)
abbrev KpD := List Int × ShapeD
def kpStep (ns : ShapeD) (bs : List Bool) (i : Nat) (q : KpD) : KpD := bif (bs[i]?).getD false then (q.1.set i q.2.length, q.2 ++ [keepN (q.1.set i q.2.length) (nodeAt ns i)]) else q
def kpGo (ns : ShapeD) (bs : List Bool) : Nat → KpD
  | 0 => (List.replicate ns.length 0, [])
  | i + 1 => kpStep ns bs i (kpGo ns bs i)
def keptV (ns : ShapeD) (bs : List Bool) : ShapeD := (kpGo ns bs ns.length).2
def partV (ns : ShapeD) (node : Int) : ShapeD := keptV ns (belV ns node)

end Go.Proofs.Ytfhpmcdbfebflaa

/- Shapes that are joined and wrapped: walks of the program's functions. -/
set_option linter.unusedVariables false
set_option linter.unusedSimpArgs false
set_option maxRecDepth 100000
namespace Go.Proofs.Ytfhpmcdbfebflaa
open Go.Ev Go.Ev.Fl

theorem cond_intro {b : Bool} {P Q : Prop} (h : b = true) (hp : P) : cond b P Q := by rw [h]; exact hp
def putN1 (d : Int) (x : NodeD) : NodeD := (x.1, (bif !inR x.1 0 4 then IntKind.i64.wrap (x.2.1 + d) else x.2.1), (bif inR x.1 5 8 then IntKind.i64.wrap (x.2.2.1 + d) else x.2.2.1), x.2.2.2)

end Go.Proofs.Ytfhpmcdbfebflaa

/- What the laws of the second kind draw: points, shapes, shapes of few nodes. -/
set_option linter.unusedVariables false
set_option linter.unusedSimpArgs false
set_option maxRecDepth 100000
namespace Go.Proofs.Ytfhpmcdbfebflaa
open Go.Ev Go.Ev.Fl

end Go.Proofs.Ytfhpmcdbfebflaa

/- Plain: parts of shapes: which nodes they have, that they are valid, how deep they are; leaves. -/
set_option linter.unusedVariables false
set_option linter.unusedSimpArgs false
set_option maxRecDepth 100000
namespace Go.Proofs.Ytfhpmcdbfebflaa
open Go.Ev Go.Ev.Fl

abbrev kidsAt (ns : ShapeD) (i : Nat) : List Int := kidsN (nodeAt ns (i : Int))
structure Tree (ns : ShapeD) : Prop where
  st : Stack ns [(ns.length : Int) - 1]
  lo : 1 ≤ ns.length
theorem Tree.at {ns : ShapeD} (h : Tree ns) {i : Nat} (hi : i < ns.length) : ns[i]? = some (nodeAt ns i) ∧ nodeB i (nodeAt ns i) = true := by
  have e : ns[i]? = some (ns[i]'hi) := get_lt hi
  have en : nodeAt ns (i : Int) = ns[i]'hi := by unfold nodeAt; rw [Int.toNat_natCast, e]; rfl
  rw [en]
  exact ⟨e, h.st.nodes i _ e⟩
theorem Tree.kid {ns : ShapeD} (h : Tree ns) {i : Nat} (hi : i < ns.length) : ∀ c ∈ kidsAt ns i, 0 ≤ c ∧ c < i := by
  have hb := (h.at hi).2
  intro c hc
  have := nodeB_kids hb c hc
  omega
theorem Tree.nodes {ns : ShapeD} (h : Tree ns) : nodesB ns = true := okUp_all fun j n _ e => h.st.nodes j n e
def mkB (bs : List Bool) (j : Nat) : Bool := (bs[j]?).getD false
theorem mk_set {bs : List Bool} {c : Nat} (hc : c < bs.length) (j : Nat) : mkB (bs.set c true) j = true ↔ mkB bs j = true ∨ j = c := by
  unfold mkB
  rw [List.getElem?_set]
  by_cases e : c = j
  · subst e
    rw [if_pos rfl, if_pos hc]
    simp
  · rw [if_neg e]
    constructor
    · exact .inl
    · rintro (k | k)
      · exact k
      · exact absurd k.symm e
theorem mk_markK : ∀ (cs : List Int) (bs : List Bool), (∀ c ∈ cs, 0 ≤ c ∧ c < bs.length) → ∀ j, mkB (markK bs cs) j = true ↔ mkB bs j = true ∨ (j : Int) ∈ cs
  | [], bs, _, j => by simp [markK]
  | c :: cs, bs, h, j => by
    have hc := h c (by simp)
    have ih := mk_markK cs (bs.set c.toNat true) (fun d hd => by rw [List.length_set]; exact h d (by simp [hd])) j
    show mkB (markK (bs.set c.toNat true) cs) j = true ↔ _
    rw [ih, mk_set (by omega), List.mem_cons]
    constructor
    · rintro ((k | k) | k)
      · exact .inl k
      · exact .inr (.inl (by omega))
      · exact .inr (.inr k)
    · rintro (k | k | k)
      · exact .inl (.inl k)
      · exact .inl (.inr (by omega))
      · exact .inr k
structure Mkd (ns : ShapeD) (node i : Nat) (bs : List Bool) : Prop where
  len : bs.length = ns.length
  top : mkB bs node = true
  le : ∀ j, mkB bs j = true → j ≤ node
  down : ∀ p, i ≤ p → p < ns.length → mkB bs p = true → ∀ c ∈ kidsAt ns p, mkB bs c.toNat = true
  up : ∀ j, mkB bs j = true → j ≠ node → ∃ p, i ≤ p ∧ p < ns.length ∧ mkB bs p = true ∧ (j : Int) ∈ kidsAt ns p
theorem Mkd.step {ns : ShapeD} (T : Tree ns) {node i : Nat} {bs : List Bool} (h : Mkd ns node (i + 1) bs) (hi : i < ns.length) : Mkd ns node i (bif mkB bs i then markK bs (kidsAt ns i) else bs) := by
  have hk := T.kid hi
  cases e : mkB bs i with
  | false =>
    simp only [cond_false]
    refine ⟨h.len, h.top, h.le, fun p hp hpl hm c hc => ?_, fun j hj hn => ?_⟩
    · rcases Nat.lt_or_ge i p with k | k
      · exact h.down p (by omega) hpl hm c hc
      · have : p = i := by omega
        subst this
        rw [e] at hm; cases hm
    · obtain ⟨p, h1, h2⟩ := h.up j hj hn
      exact ⟨p, by omega, h2⟩
  | true =>
    have K := mk_markK (kidsAt ns i) bs (fun c hc => by have := hk c hc; have := h.len; omega)
    simp only [cond_true]
    refine ⟨by rw [markK_len]; exact h.len, (K node).2 (.inl h.top), fun j hj => ?_, fun p hp hpl hm c hc => ?_, fun j hj hn => ?_⟩
    · rcases (K j).1 hj with k | k
      · exact h.le j k
      · have := hk _ k; have := h.le i e; omega
    · rw [K]
      have cr := T.kid hpl c hc
      rcases Nat.lt_or_ge i p with k | k
      · have hpm : mkB bs p = true := by
          rcases (K p).1 hm with q | q
          · exact q
          · have := hk _ q; omega
        exact .inl (h.down p (by omega) hpl hpm c hc)
      · have : p = i := by omega
        subst this
        exact .inr (by rw [Int.toNat_of_nonneg cr.1]; exact hc)
    · rcases (K j).1 hj with k | k
      · obtain ⟨p, h1, h2, h3, h4⟩ := h.up j k hn
        exact ⟨p, by omega, h2, (K p).2 (.inl h3), h4⟩
      · exact ⟨i, Nat.le_refl _, hi, (K i).2 (.inl e), k⟩
def ms (bs : List Bool) (i : Nat) : List Nat := (List.range i).filter (mkB bs)
theorem ax_reN {k a c a' c' : Int} (hk : isK k = true) (h0 : inR k 0 4 = true → a' = a) (h5 : inR k 5 8 = false → c' = c) (h : axB k a c = true) : axB k a' c' = true := by
  rcases kind_ax a c hk with ⟨q1, q2, q3⟩ | ⟨q1, q2, q3, q4, q5⟩ | ⟨q1, q2, q3, q4, q5⟩ | ⟨q1, q2, q3, q4⟩
  · have q5 : inR k 5 8 = false := by rcases kinds hk with r | r | r | r | r | r | r | r | r | r | r | r | r | r | r | r | r <;> subst r <;> first | rfl | cases q1
    rw [h0 q1, h5 q5]; exact h
  · rw [h5 q2]
    rcases kind_ax a' c hk with ⟨p1, p2, p3⟩ | ⟨p1, p2, p3, p4, p5⟩ | ⟨p1, p2, p3, p4, p5⟩ | ⟨p1, p2, p3, p4⟩
    · rw [p1] at q1; cases q1
    · rw [p5, ← q5]; exact h
    · rw [p3] at q3; cases q3
    · exact p4
  · rw [h5 q2]
    rcases kind_ax a' c hk with ⟨p1, p2, p3⟩ | ⟨p1, p2, p3, p4, p5⟩ | ⟨p1, p2, p3, p4, p5⟩ | ⟨p1, p2, p3, p4⟩
    · rw [p1] at q1; cases q1
    · rw [p3] at q3; cases q3
    · rw [p5, ← q5]; exact h
    · exact p4
  · rcases kind_ax a' c' hk with ⟨p1, p2, p3⟩ | ⟨p1, p2, p3, p4, p5⟩ | ⟨p1, p2, p3, p4, p5⟩ | ⟨p1, p2, p3, p4⟩
    · rw [p1] at q1; cases q1
    · rw [p2] at q2; cases q2
    · rw [p2] at q2; cases q2
    · exact p4
theorem Tree.isK {ns : ShapeD} (T : Tree ns) {i : Nat} (hi : i < ns.length) : isK (nodeAt ns (i : Int)).1 = true := nodeB_isK (T.at hi).2
def dp (ns : ShapeD) (i : Nat) : Int := dMax (dpL ns i) (kidsAt ns i) + 1
end Go.Proofs.Ytfhpmcdbfebflaa

/- Floats as rational numbers: numbers that are bounded by a power of two; so nothing is a not-a-number. -/
set_option linter.unusedVariables false
set_option linter.unusedSimpArgs false
namespace Go.Ev
open Ieee

namespace Fl
def wpw (e : Nat) : Nat := (e + 127) * 8388608
theorem wpw_ex {e : Nat} (h : e ≤ 126) : Ex .f32 (wpw e) (pw (e : Int)) := by
  have hb : FloatKind.f32.format.binade = 8388608 := by decide
  have hr : (e + 126) * FloatKind.f32.format.binade + 8388608 ≤ infOf .f32 := by
    rw [hb]
    have : infOf .f32 = 2139095040 := rfl
    omega
  have hw : wpw e = FloatKind.f32.format.word false ((e + 126) * FloatKind.f32.format.binade + 8388608) := by
    rw [hb]
    unfold wpw
    show _ = (e + 126) * 8388608 + 8388608
    omega
  have hlt : wpw e < infOf .f32 := by
    have : infOf .f32 = 2139095040 := rfl
    unfold wpw
    omega
  have hi : infOf .f32 = 2139095040 := rfl
  have hs : signOf .f32 = 2147483648 := rfl
  refine ⟨?_, by omega, ?_⟩
  · rw [fin_iff]
    show wpw e % signOf .f32 < infOf .f32
    rw [Nat.mod_eq_of_lt (by omega)]
    exact hlt
  · rw [ev_lit (k := .f32) false (e + 126) 8388608 (by rw [hb]; decide) (.inr (by omega)) hw hr]
    have hl : FloatKind.f32.format.leastPlace = -149 := by decide
    rw [hl, show ∀ q : Rat, sgd false q = q from fun _ => rfl]
    have e1 : ((8388608 : Nat) : Rat) = pw ((23 : Nat) : Int) := by rw [pw_nat, show (2 ^ 23 : Nat) = 8388608 by decide]
    rw [e1, ← pw_add]
    exact congrArg pw (by omega)
structure Bd (e : Nat) (x : Nat) : Prop where
  f : fin .f32 x = true
  l : x < 2 * signOf .f32
  lo : -pw (e : Int) ≤ ev .f32 x
  hi : ev .f32 x ≤ pw (e : Int)
theorem Bd.nan {e x : Nat} (h : Bd e x) : nan .f32 x = false := fin_nan h.f
theorem Bd.ex {e x : Nat} (h : Bd e x) : Ex .f32 x (ev .f32 x) := ⟨h.f, h.l, rfl⟩
theorem Bd.mono {e g x : Nat} (h : Bd e x) (he : e ≤ g) : Bd g x := by
  have := pw_le (show (e : Int) ≤ (g : Int) by omega)
  exact ⟨h.f, h.l, by have := h.lo; grind, by have := h.hi; grind⟩
theorem Bd.of_rnd {q : Rat} {b e : Nat} (h : Rnd .f32 q b) (h1 : -pw (e : Int) ≤ q) (h2 : q ≤ pw (e : Int)) (he : e ≤ 126) : Bd e b := by
  have W := wpw_ex he
  have V := W.neg
  have hi := h.le W.nan W.l (by rw [W.e]; exact h2)
  have lo := h.ge V.nan V.l (by rw [V.e]; exact h1)
  have hp := ev_le_iff.1 hi
  have lp := ev_le_iff.1 lo
  have f1 := (fin_pos W.nan).1 W.f
  have f2 := (fin_pos V.nan).1 V.f
  rw [W.e] at hi
  rw [V.e] at lo
  exact ⟨(fin_pos h.nan).2 ⟨by omega, by omega⟩, h.lt2, lo, hi⟩
theorem Bd.of_ex {q : Rat} {b e : Nat} (h : Ex .f32 b q) (h1 : -pw (e : Int) ≤ q) (h2 : q ≤ pw (e : Int)) : Bd e b := ⟨h.f, h.l, by rw [h.e]; exact h1, by rw [h.e]; exact h2⟩
theorem pw_two (e : Nat) : pw ((e + 1 : Nat) : Int) = 2 * pw (e : Int) := by rw [show ((e + 1 : Nat) : Int) = (e : Int) + 1 by omega]; exact pw_succ _
theorem pw_sum (e g : Nat) : pw ((e + g : Nat) : Int) = pw (e : Int) * pw (g : Int) := by rw [show ((e + g : Nat) : Int) = (e : Int) + (g : Int) by omega]; exact pw_add _ _
theorem Bd.add {e x y : Nat} (hx : Bd e x) (hy : Bd e y) (he : e ≤ 125) : Bd (e + 1) (fadd .f32 x y) := by
  have p := pw_two e
  have := hx.lo; have := hx.hi; have := hy.lo; have := hy.hi
  exact .of_rnd (hx.ex.radd hy.ex) (by rw [p]; grind) (by rw [p]; grind) (by omega)
theorem Bd.sub {e x y : Nat} (hx : Bd e x) (hy : Bd e y) (he : e ≤ 125) : Bd (e + 1) (fsub .f32 x y) := by
  have p := pw_two e
  have := hx.lo; have := hx.hi; have := hy.lo; have := hy.hi
  exact .of_rnd (hx.ex.rsub hy.ex) (by rw [p]; grind) (by rw [p]; grind) (by omega)
theorem mul_bound {a b A B : Rat} (hA : 0 ≤ A) (hB : 0 ≤ B) (h1 : -A ≤ a) (h2 : a ≤ A) (h3 : -B ≤ b) (h4 : b ≤ B) : -(A * B) ≤ a * b ∧ a * b ≤ A * B := by
  have p1 := Rat.mul_nonneg (show 0 ≤ A - a by grind) (show 0 ≤ B - b by grind)
  have p2 := Rat.mul_nonneg (show 0 ≤ A + a by grind) (show 0 ≤ B + b by grind)
  have p3 := Rat.mul_nonneg (show 0 ≤ A - a by grind) (show 0 ≤ B + b by grind)
  have p4 := Rat.mul_nonneg (show 0 ≤ A + a by grind) (show 0 ≤ B - b by grind)
  constructor <;> grind
theorem Bd.mul {e g x y : Nat} (hx : Bd e x) (hy : Bd g y) (he : e + g ≤ 126) : Bd (e + g) (fmul .f32 x y) := by
  have p := pw_sum e g
  have := mul_bound (Rat.le_of_lt (pw_pos (e : Int))) (Rat.le_of_lt (pw_pos (g : Int))) hx.lo hx.hi hy.lo hy.hi
  exact .of_rnd (hx.ex.rmul hy.ex) (by rw [p]; exact this.1) (by rw [p]; exact this.2) he
theorem Bd.div {e g x y : Nat} (hx : Bd e x) {q : Rat} (hy : Ex .f32 y q) (h1 : 0 < q) (h2 : 1 ≤ q * pw (g : Int)) (he : e + g ≤ 126) : Bd (e + g) (fdiv .f32 x y) := by
  have h0 : q ≠ 0 := by grind
  have p := pw_sum e g
  have hq : ev .f32 x / q * q = ev .f32 x := Rat.div_mul_cancel h0
  have hm := Rat.mul_nonneg (Rat.le_of_lt (pw_pos (e : Int))) (show 0 ≤ q * pw (g : Int) - 1 by grind)
  have hi : ev .f32 x / q ≤ pw (e : Int) * pw (g : Int) := by
    refine Rat.le_of_mul_le_mul_right ?_ h1
    rw [hq]
    have := hx.hi
    grind
  have lo : -(pw (e : Int) * pw (g : Int)) ≤ ev .f32 x / q := by
    refine Rat.le_of_mul_le_mul_right ?_ h1
    rw [hq]
    have := hx.lo
    grind
  exact .of_rnd (hx.ex.rdiv hy h0) (by rw [p]; exact lo) (by rw [p]; exact hi) he
theorem Bd.neg {e x : Nat} (hx : Bd e x) : Bd e (fneg .f32 x) := by
  have := hx.lo; have := hx.hi
  exact .of_ex hx.ex.neg (by grind) (by grind)
theorem tab_root : (List.range 63).all (fun m => Nat.beq (rootN (wpw (2 * m))) (wpw m)) = true := by decide +kernel
theorem Bd.root {m x : Nat} (hx : Bd (2 * m) x) (h0 : 0 ≤ ev .f32 x) (hm : m ≤ 62) : Bd m (rootN x) ∧ 0 ≤ ev .f32 (rootN x) := by
  obtain ⟨a1, a2, a3⟩ := root_ex hx.ex h0
  have t := List.all_eq_true.1 tab_root m (List.mem_range.2 (by omega))
  have t := Nat.eq_of_beq_eq_true t
  have W := wpw_ex (e := 2 * m) (by omega)
  have V := wpw_ex (e := m) (by omega)
  have h := root_mono hx.ex W h0 hx.hi
  rw [t, V.e] at h
  have := pw_pos (m : Int)
  exact ⟨⟨a1, a2, by grind, h⟩, a3⟩
end Fl
end Go.Ev

/- Plain: distances of shapes of small numbers are bounded, so none is a not-a-number. -/
set_option linter.unusedVariables false
set_option linter.unusedSimpArgs false
set_option maxRecDepth 100000
namespace Go.Proofs.Ytfhpmcdbfebflaa
open Go.Ev Go.Ev.Fl

structure BV (e : Nat) (p : V3) : Prop where
  x : Bd e p.1
  y : Bd e p.2.1
  z : Bd e p.2.2
theorem BV.mono {e g : Nat} {p : V3} (h : BV e p) (he : e ≤ g) : BV g p := ⟨h.x.mono he, h.y.mono he, h.z.mono he⟩
end Go.Proofs.Ytfhpmcdbfebflaa

/- Plain: joined and wrapped shapes: they are trees, and their distances. Drawn shapes have small numbers. -/
set_option linter.unusedVariables false
set_option linter.unusedSimpArgs false
set_option maxRecDepth 100000
namespace Go.Proofs.Ytfhpmcdbfebflaa
open Go.Ev Go.Ev.Fl

theorem cond_no {b : Bool} {P Q : Prop} (h : b = false) (hq : Q) : cond b P Q := by rw [h]; exact hq
theorem cond_both {b : Bool} {P Q : Prop} (h1 : b = true → P) (h0 : b = false → Q) : cond b P Q := by
  cases b
  · exact h0 rfl
  · exact h1 rfl

def reF (f : Int → Int) (n : NodeD) : NodeD := (n.1, (bif !inR n.1 0 4 then f n.2.1 else n.2.1), (bif inR n.1 5 8 then f n.2.2.1 else n.2.2.1), n.2.2.2)
theorem kids_reF (f : Int → Int) {n : NodeD} (hk : isK n.1 = true) : kidsN (reF f n) = (kidsN n).map f := by
  obtain ⟨k, a, c, xs⟩ := n
  unfold reF
  simp only
  rcases kind_cases a c hk with ⟨q1, q2, q3⟩ | ⟨q1, q2, q3⟩ | ⟨q1, q2, q3⟩ <;> simp only [q1, q2, Bool.not_true, Bool.not_false, cond_true, cond_false]
  · show kids k a c = (kids k a c).map f
    rw [q3]; rfl
  · show kids k (f a) c = (kids k a c).map f
    rw [q3]
    rcases kind_cases (f a) c hk with ⟨p1, p2, p3⟩ | ⟨p1, p2, p3⟩ | ⟨p1, p2, p3⟩
    · rw [p1] at q1; cases q1
    · rw [p3]; rfl
    · rw [p2] at q2; cases q2
  · show kids k (f a) (f c) = (kids k a c).map f
    rw [q3]
    rcases kind_cases (f a) (f c) hk with ⟨p1, p2, p3⟩ | ⟨p1, p2, p3⟩ | ⟨p1, p2, p3⟩
    · rw [p1] at q1; cases q1
    · rw [p2] at q2; cases q2
    · rw [p3]; rfl
theorem put_re {d : Nat} {i : Int} {n : NodeD} (hd : d ≤ 64) (hi : i ≤ 64) (hb : nodeB i n = true) : putN1 d n = reF (fun c => c + d) n := by
  obtain ⟨k, a, c, xs⟩ := n
  obtain ⟨b1, b2, b3⟩ := nodeB_parts hb
  unfold putN1 reF
  simp only
  rcases kind_cases a c (nums_isK b1) with ⟨q1, q2, q3⟩ | ⟨q1, q2, q3⟩ | ⟨q1, q2, q3⟩ <;> rw [q3] at b3 <;> simp only [q1, q2, Bool.not_true, Bool.not_false, cond_true, cond_false]
  · have k1 := b3 a (by simp)
    rw [i64_of (by omega) (by omega)]
  · have k1 := b3 a (by simp)
    have k2 := b3 c (by simp)
    rw [i64_of (by omega) (by omega), i64_of (by omega) (by omega)]
theorem nodeB_re {i j : Int} {n : NodeD} {f : Int → Int} (hb : nodeB i n = true) (hf : ∀ c, 0 ≤ c → c < i → 0 ≤ f c ∧ f c < j) : nodeB j (reF f n) = true := by
  have hk := nodeB_isK hb
  have hkid := kids_reF f hk
  obtain ⟨k, a, c, xs⟩ := n
  obtain ⟨b1, b2, b3⟩ := nodeB_parts hb
  unfold nodeB
  rw [hkid]
  simp only [Bool.and_eq_true]
  refine ⟨b1, ax_reN (k := k) (a := a) (c := c) hk (fun e => ?_) (fun e => ?_) b2, List.all_eq_true.2 fun x hx => ?_⟩
  · show (bif !inR k 0 4 then f a else a) = a
    rw [e]; rfl
  · show (bif inR k 5 8 then f c else c) = c
    rw [e]; rfl
  · obtain ⟨y, hy, rfl⟩ := List.mem_map.1 hx
    have h3 := b3 y hy
    have := hf y h3.1 h3.2
    exact inR_iff.2 (by omega)

theorem upTo_add (m n : Nat) : upTo (m + n) = upTo m ++ (upTo n).map (fun c => c + (m : Int)) := by
  induction n with
  | zero => simp [upTo]
  | succ n ih =>
    rw [← Nat.add_assoc, upTo_succ, ih, upTo_succ, List.map_append, List.append_assoc]
    congr 2
    simp only [List.map_cons, List.map_nil]
    congr 1
    omega
theorem flat_put {v : ShapeD} {d : Nat} (hd : d ≤ 64) (h : ∀ n ∈ v, ∃ i : Int, i ≤ 64 ∧ nodeB i n = true) : (v.map (putN1 d)).flatMap kidsN = (v.flatMap kidsN).map (fun c => c + (d : Int)) := by
  induction v with
  | nil => rfl
  | cons n r ih =>
    rw [List.map_cons, List.flatMap_cons, List.flatMap_cons, List.map_append, ih fun m hm => h m (by simp [hm])]
    obtain ⟨i, hi, hb⟩ := h n (by simp)
    rw [put_re hd hi hb, kids_reF _ (nodeB_isK hb)]
theorem Stack.app {u v : ShapeD} {fu fv : List Int} (hu : Stack u fu) (hv : Stack v fv) (hn : v ≠ []) (hl : u.length ≤ 64) (hl2 : v.length ≤ 64) : Stack (u ++ v.map (putN1 u.length)) (fu ++ fv.map (fun c => c + (u.length : Int))) := by
  have hb : ∀ n ∈ v, ∃ i : Int, i ≤ 64 ∧ nodeB i n = true := fun n hn => by
    obtain ⟨i, hi, rfl⟩ := List.mem_iff_getElem.1 hn
    exact ⟨i, by omega, hv.nodes i _ (List.getElem?_eq_getElem hi)⟩
  refine ⟨fun j n hj => ?_, ?_, fun _ => ?_⟩
  · rcases Nat.lt_or_ge j u.length with h | h
    · rw [List.getElem?_append_left h] at hj
      exact hu.nodes j n hj
    · rw [List.getElem?_append_right h, List.getElem?_map] at hj
      cases e : v[j - u.length]? with
      | none => rw [e] at hj; cases hj
      | some m =>
        rw [e] at hj
        cases hj
        have hm := hv.nodes _ m e
        have hlt := lt_of_get e
        rw [put_re (i := ((j - u.length : Nat) : Int)) hl (by omega) hm]
        exact nodeB_re hm fun c h0 h1 => by omega
  · rw [List.length_append, List.length_map, upTo_add, List.flatMap_append, flat_put hl hb]
    have h1 := hu.perm
    have h2 := hv.perm.map (fun c => c + (u.length : Int))
    rw [List.map_append] at h2
    refine List.Perm.trans ?_ (h1.append h2)
    rw [List.append_assoc, List.append_assoc]
    refine List.Perm.append_left _ ?_
    rw [← List.append_assoc, ← List.append_assoc]
    exact List.Perm.append_right _ List.perm_append_comm
  · have := hv.last hn
    rw [List.getLast?_append, List.getLast?_map, this, List.length_append, List.length_map]
    show some ((v.length : Int) - 1 + (u.length : Int)) = some (((u.length + v.length : Nat) : Int) - 1)
    congr 1
    omega
theorem Tree.ne {s : ShapeD} (h : Tree s) : s ≠ [] := fun e => by have := h.lo; rw [e] at this; simp at this
end Go.Proofs.Ytfhpmcdbfebflaa

/- Floats: roots between numbers; a root of a quarter is nearly a half of the root. -/
set_option linter.unusedVariables false
set_option linter.unusedSimpArgs false
namespace Go.Ev
open Ieee

namespace Fl
theorem rnd_between {k : FloatKind} {q a c : Rat} {b u v : Nat} (h : Rnd k q b) (U : Ex k u a) (V : Ex k v c) (h1 : a ≤ q) (h2 : q ≤ c) : fin k b = true ∧ a ≤ ev k b ∧ ev k b ≤ c := by
  have hi := h.le V.nan V.l (by rw [V.e]; exact h2)
  have lo := h.ge U.nan U.l (by rw [U.e]; exact h1)
  have hp := ev_le_iff.1 hi
  have lp := ev_le_iff.1 lo
  have f1 := (fin_pos V.nan).1 V.f
  have f2 := (fin_pos U.nan).1 U.f
  rw [V.e] at hi
  rw [U.e] at lo
  exact ⟨(fin_pos h.nan).2 ⟨by omega, by omega⟩, lo, hi⟩
end Fl
end Go.Ev

/- Lines through shapes: probes, changes of sign, crossings: walks. -/
set_option linter.unusedVariables false
set_option linter.unusedSimpArgs false
set_option maxRecDepth 100000
namespace Go.Proofs.Ytfhpmcdbfebflaa
open Go.Ev Go.Ev.Fl

noncomputable def c_spec_l01Narrow : Ctx := mkC Try.prog tyT [] [] [] 5 (fun _ => none) 0
theorem w_spec_l01Narrow (x : Nat) (K : V → Heap → Prop) : wpFn c_spec_l01Narrow Try.f170 (encAs [.cell (.float .f64)] (x, ())) [] K =
 cond (ovf x)
 (K .undef [])
 (K (.float .f32 (narrow x)) []) := by kernel_rfl
noncomputable def s_spec_l01Narrow : Sm := semG [.cell (.float .f64)] (fun x => match x with | (x, _) => !ovf x) fun x => match x with | (x, _) => .float .f32 (narrow x)
theorem ok_spec_l01Narrow : FnOk Try.prog 170 s_spec_l01Narrow := fnOk_typedG (fnOk_runC (C := c_spec_l01Narrow) rfl mixed .nil .nil .nil Try.func170 (by kernel_rfl)) fun (x : ((Nat) × Unit)) wf hg K h => by
  obtain ⟨x, ⟨⟩⟩ := x
  replace hg : (!ovf x) = true := hg
  replace h : K (.float .f32 (narrow x)) [] := h
  rw [w_spec_l01Narrow x K]
  rw [Bool.not_eq_true'] at hg
  rw [hg]
  exact h

noncomputable def c_spec_l01Sqrt : Ctx := mkC Try.prog tyT [(154, s_math_Sqrt), (170, s_spec_l01Narrow)] [] [] 7 (fun _ => none) 0
theorem w_spec_l01Sqrt (x : Nat) (K : V → Heap → Prop) : wpFn c_spec_l01Sqrt Try.f149 (encAs [.cell tF] (x, ())) [] K =
 cond (!ovf (fsqrt FloatKind.f64 (widen x)))
 (K (.float .f32 (narrow (fsqrt FloatKind.f64 (widen x)))) [])
 (False) := by kernel_rfl
noncomputable def s_spec_l01Sqrt : Sm := semT [.cell tF] fun x => match x with | (x, _) => .float .f32 (rootV x)
theorem ok_spec_l01Sqrt : FnOk Try.prog 149 s_spec_l01Sqrt := fnOk_typed (fnOk_runC (C := c_spec_l01Sqrt) rfl mixed (.cons ok_math_Sqrt (.cons ok_spec_l01Narrow .nil)) .nil .nil Try.func149 (by kernel_rfl)) fun (x : ((Nat) × Unit)) wf K h => by
  obtain ⟨x, ⟨⟩⟩ := x
  replace h : K (.float .f32 (rootV x)) [] := h
  rw [w_spec_l01Sqrt x K]
  rw [root_ovf wf.1.1 wf.1.2]
  exact h

noncomputable def c_spec_l01Inner : Ctx := mkC Try.prog tyT [] [] [] 22 (fun _ => none) 0
theorem w_spec_l01Inner (v w : V3) (K : V → Heap → Prop) : wpFn c_spec_l01Inner Try.f150 (encAs [.agg tV, .agg tV] (v, w, ())) [] K =
 K (.float .f32 (fadd FloatKind.f32 (fadd FloatKind.f32 (fmul FloatKind.f32 (Prod.fst v) (Prod.fst w)) (fmul FloatKind.f32 (Prod.fst (Prod.snd v)) (Prod.fst (Prod.snd w)))) (fmul FloatKind.f32 (Prod.snd (Prod.snd v)) (Prod.snd (Prod.snd w))))) [] := by kernel_rfl
noncomputable def s_spec_l01Inner : Sm := semT [.agg tV, .agg tV] fun x => match x with | (v, w, _) => .float .f32 (innerV v w)
theorem ok_spec_l01Inner : FnOk Try.prog 150 s_spec_l01Inner := fnOk_typed (fnOk_runC (C := c_spec_l01Inner) rfl mixed .nil .nil .nil Try.func150 (by kernel_rfl)) fun (x : ((V3) × (V3) × Unit)) wf K h => by
  obtain ⟨v, w, ⟨⟩⟩ := x
  replace h : K (.float .f32 (innerV v w)) [] := h
  rw [w_spec_l01Inner v w K]
  exact h

noncomputable def c_spec_l01Long : Ctx := mkC Try.prog tyT [(150, s_spec_l01Inner), (149, s_spec_l01Sqrt)] [] [] 7 (fun _ => none) 0
theorem w_spec_l01Long (v : V3) (K : V → Heap → Prop) : wpFn c_spec_l01Long Try.f107 (encAs [.agg tV] (v, ())) [] K =
 K (.float .f32 (rootV (innerV v v))) [] := by kernel_rfl
noncomputable def s_spec_l01Long : Sm := semT [.agg tV] fun x => match x with | (v, _) => .float .f32 (longV v)
theorem ok_spec_l01Long : FnOk Try.prog 107 s_spec_l01Long := fnOk_typed (fnOk_runC (C := c_spec_l01Long) rfl mixed (.cons ok_spec_l01Inner (.cons ok_spec_l01Sqrt .nil)) .nil .nil Try.func107 (by kernel_rfl)) fun (x : ((V3) × Unit)) wf K h => by
  obtain ⟨v, ⟨⟩⟩ := x
  replace h : K (.float .f32 (longV v)) [] := h
  rw [w_spec_l01Long v K]
  exact h

def intV (s : SrcD) (m : Int) : Nat := FloatKind.f32.nearest (pickV s (2 * m + 1) - m)
def intsV (xs : List Int) (m : Int) : V3 := (intV (xs, 0, 0) m, intV (pickS (xs, 0, 0) (2 * m + 1)) m, intV (pickS (pickS (xs, 0, 0) (2 * m + 1)) (2 * m + 1)) m)
noncomputable def c_spec_B10Vector : Ctx := mkC Try.prog tyT [] [] [(67, s_spec_l00From), (70, s_spec_l00Src_pick)] 37 (fun _ => none) 0
theorem w_spec_B10Vector (xs : List Int) (m : Int) (K : V → Heap → Prop) : wpFn c_spec_B10Vector Try.f46 (encAs [.cell tB, .cell (.int .i64)] (xs, m, ())) [] K =
 cond (srcIn 6 (pickS (xs, 0, 0) (IntKind.wrap IntKind.i64 (IntKind.wrap IntKind.i64 (2 * m) + 1))))
 (cond (srcIn 6 (pickS (pickS (xs, 0, 0) (IntKind.wrap IntKind.i64 (IntKind.wrap IntKind.i64 (2 * m) + 1))) (IntKind.wrap IntKind.i64 (IntKind.wrap IntKind.i64 (2 * m) + 1))))
 (K (.agg [(.float .f32 (FloatKind.nearest FloatKind.f32 (IntKind.wrap IntKind.i64 (pickV (xs, 0, 0) (IntKind.wrap IntKind.i64 (IntKind.wrap IntKind.i64 (2 * m) + 1)) - m)))), (.float .f32 (FloatKind.nearest FloatKind.f32 (IntKind.wrap IntKind.i64 (pickV (pickS (xs, 0, 0) (IntKind.wrap IntKind.i64 (IntKind.wrap IntKind.i64 (2 * m) + 1))) (IntKind.wrap IntKind.i64 (IntKind.wrap IntKind.i64 (2 * m) + 1)) - m)))), (.float .f32 (FloatKind.nearest FloatKind.f32 (IntKind.wrap IntKind.i64 (pickV (pickS (pickS (xs, 0, 0) (IntKind.wrap IntKind.i64 (IntKind.wrap IntKind.i64 (2 * m) + 1))) (IntKind.wrap IntKind.i64 (IntKind.wrap IntKind.i64 (2 * m) + 1))) (IntKind.wrap IntKind.i64 (IntKind.wrap IntKind.i64 (2 * m) + 1)) - m))))]) [])
 (False))
 (False) := by kernel_rfl
noncomputable def s_spec_B10Vector : Sm := semG [.cell tB, .cell (.int .i64)] (fun x => match x with | (xs, m, _) => decide (0 ≤ m) && decide (m ≤ 1000000)) fun x => match x with | (xs, m, _) => .agg (enc tV (intsV xs m))
theorem ok_spec_B10Vector : FnOk Try.prog 46 s_spec_B10Vector := fnOk_typedG (fnOk_runC (C := c_spec_B10Vector) rfl mixed .nil .nil (.cons ok_spec_l00From (.cons ok_spec_l00Src_pick .nil)) Try.func46 (by kernel_rfl)) fun (x : ((List Int) × (Int) × Unit)) wf hg K h => by
  obtain ⟨xs, m, ⟨⟩⟩ := x
  replace hg : (decide (0 ≤ m) && decide (m ≤ 1000000)) = true := hg
  replace h : K (.agg (enc tV (intsV xs m))) [] := h
  rw [w_spec_B10Vector xs m K]
  simp only [Bool.and_eq_true, decide_eq_true_eq] at hg
  have b0 : bytes (xs, (0 : Int), (0 : Int)).1 := bytes_of wf.1
  have gi : inS 0 (xs, 0, 0) = true := inS_iff.2 ⟨Int.le_refl _, Int.le_refl _⟩
  have F1 := far_pick (xs, 0, 0) (2 * m + 1)
  have F2 := F1.trans (far_pick _ (2 * m + 1))
  have s0 : srcIn 6 (xs, 0, 0) = true := inS_src gi (by omega) 6 (by omega)
  have s1 : srcIn 6 (pickS (xs, 0, 0) (2 * m + 1)) = true := inS_src (F1.ok gi (m := 2) (by omega)) (by omega) 6 (by omega)
  have s2 : srcIn 6 (pickS (pickS (xs, 0, 0) (2 * m + 1)) (2 * m + 1)) = true := inS_src (F2.ok gi (m := 4) (by omega)) (by omega) 6 (by omega)
  rw [i64_of (n := 2 * m) (by omega) (by omega), i64_of (n := 2 * m + 1) (by omega) (by omega)]
  have b1 : bytes (pickS (xs, 0, 0) (2 * m + 1)).1 := by rw [pickS_1]; exact b0
  have b2 : bytes (pickS (pickS (xs, 0, 0) (2 * m + 1)) (2 * m + 1)).1 := by rw [pickS_1]; exact b1
  have r0 := pickV_range b0 (n := 2 * m + 1) (by omega)
  have r1 := pickV_range b1 (n := 2 * m + 1) (by omega)
  have r2 := pickV_range b2 (n := 2 * m + 1) (by omega)
  rw [s1, s2, i64_of (n := pickV (xs, 0, 0) (2 * m + 1) - m) (by omega) (by omega), i64_of (n := pickV (pickS (xs, 0, 0) (2 * m + 1)) (2 * m + 1) - m) (by omega) (by omega), i64_of (n := pickV (pickS (pickS (xs, 0, 0) (2 * m + 1)) (2 * m + 1)) (2 * m + 1) - m) (by omega) (by omega)]
  exact h

end Go.Proofs.Ytfhpmcdbfebflaa

/- What the laws of the first kind draw besides: points, units. Shadows and openness: walks. -/
set_option linter.unusedVariables false
set_option linter.unusedSimpArgs false
set_option maxRecDepth 100000
namespace Go.Proofs.Ytfhpmcdbfebflaa
open Go.Ev Go.Ev.Fl

theorem srcIn_mono {L M : Nat} {s : SrcD} (h : srcIn L s = true) (hl : L ≤ M) : srcIn M s = true := by
  rw [srcIn_iff] at h ⊢
  omega
theorem srcIn_pick {L : Nat} {s : SrcD} (n : Int) (h : srcIn L s = true) : srcIn (L + 1) (pickS s n) = true := by
  have := pickS_at s n
  rw [srcIn_iff] at h ⊢
  omega

def fromV (n : Int) : Nat := canon .f32 (IntKind.u32.wrap n).toNat
def plainV (s : SrcD) : Nat := fdiv .f32 (FloatKind.f32.nearest (pickV s 129 - 64)) (bif pickV (pickS s 129) 4 == 0 then 1088421888 else 1098907648)
def plainS (s : SrcD) : SrcD := pickS (pickS s 129) 4
def listA : List Int := [0, 2147483648, 2139095040, 4286578688, 2143289344, 1, 2139095039, 8388608, 8388607, 2147483649]
def listB : List Int := [8388608, 2130706432, 1610612736, 536870912]
def floatV (s : SrcD) : Nat :=
  bif !(pickV s 12 == 0) then plainV (pickS s 12) else
  bif pickV (pickS s 12) 4 == 0 then fromV ((listA[(pickV (pickS (pickS s 12) 4) 10).toNat]?).getD 0) else
  bif pickV (pickS s 12) 4 == 1 then fromV (pickV (pickS (pickS s 12) 4) 65536 * 65536 + pickV (pickS (pickS (pickS s 12) 4) 65536) 65536) else
  bif pickV (pickS s 12) 4 == 2 then fromV (pickV (pickS (pickS s 12) 4) 65536 * 65536) else
  fmul .f32 (plainV (pickS (pickS s 12) 4)) (fromV ((listB[(pickV (plainS (pickS (pickS s 12) 4)) 4).toNat]?).getD 0))
def floatS (s : SrcD) : SrcD :=
  bif !(pickV s 12 == 0) then plainS (pickS s 12) else
  bif pickV (pickS s 12) 4 == 0 then pickS (pickS (pickS s 12) 4) 10 else
  bif pickV (pickS s 12) 4 == 1 then pickS (pickS (pickS (pickS s 12) 4) 65536) 65536 else
  bif pickV (pickS s 12) 4 == 2 then pickS (pickS (pickS s 12) 4) 65536 else
  pickS (plainS (pickS (pickS s 12) 4)) 4

noncomputable def c_spec_l01From : Ctx := mkC Try.prog tyT [(183, s_math_Float32frombits)] [] [] 6 (fun _ => none) 0
theorem w_spec_l01From (n : Int) (K : V → Heap → Prop) : wpFn c_spec_l01From Try.f181 (encAs [.cell (.int .i64)] (n, ())) [] K =
 K (.float .f32 (canon FloatKind.f32 (Int.toNat (IntKind.wrap IntKind.u32 n)))) [] := by kernel_rfl
noncomputable def s_spec_l01From : Sm := semT [.cell (.int .i64)] fun x => match x with | (n, _) => .float .f32 (fromV n)
theorem ok_spec_l01From : FnOk Try.prog 181 s_spec_l01From := fnOk_typed (fnOk_runC (C := c_spec_l01From) rfl mixed (.cons ok_math_Float32frombits .nil) .nil .nil Try.func181 (by kernel_rfl)) fun (x : ((Int) × Unit)) wf K h => by
  obtain ⟨n, ⟨⟩⟩ := x
  replace h : K (.float .f32 (fromV n)) [] := h
  rw [w_spec_l01From n K]
  exact h

noncomputable def c_spec_l01DrawPlain : Ctx := mkC Try.prog tyT [] [] [(70, s_spec_l00Src_pick), (127, s_spec_l00Src_one)] 15 (fun _ => none) 1
theorem w_spec_l01DrawPlain (s : SrcD) (K : V → Heap → Prop) : wpFnO c_spec_l01DrawPlain Try.f180 (.ptr 0 0 :: encAs [] ()) [.box (enc tSrc s)] K =
 cond (srcIn 6 s)
 (cond (srcIn 6 (pickS s 129))
 (cond (pickV (pickS s 129) 4 == 0)
 (K (.float .f32 (fdiv FloatKind.f32 (FloatKind.nearest FloatKind.f32 (IntKind.wrap IntKind.i64 (pickV s 129 - 64))) 1088421888)) [(.box [(.vec (.int .u8) (Prod.fst (pickS (pickS s 129) 4))), (.int .i64 (Prod.fst (Prod.snd (pickS (pickS s 129) 4)))), (.int .u64 (Prod.snd (Prod.snd (pickS (pickS s 129) 4))))])])
 (K (.float .f32 (fdiv FloatKind.f32 (FloatKind.nearest FloatKind.f32 (IntKind.wrap IntKind.i64 (pickV s 129 - 64))) 1098907648)) [(.box [(.vec (.int .u8) (Prod.fst (pickS (pickS s 129) 4))), (.int .i64 (Prod.fst (Prod.snd (pickS (pickS s 129) 4)))), (.int .u64 (Prod.snd (Prod.snd (pickS (pickS s 129) 4))))])]))
 (False))
 (False) := by kernel_rfl
noncomputable def s_spec_l01DrawPlain : Sm := semP tSrc [] (fun s x => match x with | _ => srcIn 5 s) fun s x => match x with | _ => (.float .f32 (plainV s), plainS s)
theorem ok_spec_l01DrawPlain : FnOkL Try.prog 180 s_spec_l01DrawPlain := fnOkO_box (fnOkO_runC (C := c_spec_l01DrawPlain) rfl mixed .nil .nil (.cons ok_spec_l00Src_pick (.cons ok_spec_l00Src_one .nil)) Try.func180 (by kernel_rfl)) fun (s : SrcD) (x : Unit) ws wf hg K h => by
  obtain ⟨⟩ := x
  replace hg : (srcIn 5 s) = true := hg
  replace h : K (.float .f32 (plainV s)) [.box (enc tSrc (plainS s))] := h
  rw [w_spec_l01DrawPlain s  K]
  have hb : bytes s.1 := bytes_of ws.1
  have r := pickV_range (s := s) hb (n := 129) (by omega)
  have g6 := srcIn_mono (M := 6) hg (by omega)
  have g6' := srcIn_pick 129 hg
  rw [g6, g6']
  simp only [cond_true]
  rw [i64_of (n := pickV s 129 - 64) (by omega) (by omega)]
  unfold plainV plainS at h
  cases e : (pickV (pickS s 129) 4 == 0) <;> rw [e] at h <;> exact h

noncomputable def c_spec_l01DrawFloat : Ctx := mkC Try.prog tyT [(181, s_spec_l01From)] [] [(70, s_spec_l00Src_pick), (127, s_spec_l00Src_one), (128, s_spec_l00Src_among), (180, s_spec_l01DrawPlain)] 40 (fun _ => none) 1
theorem w_spec_l01DrawFloat (s : SrcD) (K : V → Heap → Prop) : wpFnO c_spec_l01DrawFloat Try.f171 (.ptr 0 0 :: encAs [] ()) [.box (enc tSrc s)] K =
 cond (srcIn 6 s)
 (cond (!pickV s 12 == 0)
 (cond (srcIn 5 (pickS s 12))
 (K (.float .f32 (plainV (pickS s 12))) [(.box [(.vec (.int .u8) (Prod.fst (plainS (pickS s 12)))), (.int .i64 (Prod.fst (Prod.snd (plainS (pickS s 12))))), (.int .u64 (Prod.snd (Prod.snd (plainS (pickS s 12)))))])])
 (False))
 (cond (srcIn 6 (pickS s 12))
 (cond (pickV (pickS s 12) 4 == 0)
 (cond (srcIn 6 (pickS (pickS s 12) 4) && decide (1 ≤ 10))
 (K (.float .f32 (fromV (Option.getD [(0 : Int), (2147483648 : Int), (2139095040 : Int), (4286578688 : Int), (2143289344 : Int), (1 : Int), (2139095039 : Int), (8388608 : Int), (8388607 : Int), (2147483649 : Int)][Int.toNat (pickV (pickS (pickS s (12 : Int)) (4 : Int)) (↑(10 : Nat) : Int))]? (0 : Int)))) [(.box [(.vec (.int .u8) (Prod.fst (pickS (pickS (pickS s 12) 4) (↑10 : Int)))), (.int .i64 (Prod.fst (Prod.snd (pickS (pickS (pickS s 12) 4) (↑10 : Int))))), (.int .u64 (Prod.snd (Prod.snd (pickS (pickS (pickS s 12) 4) (↑10 : Int)))))])])
 (False))
 (cond (pickV (pickS s 12) 4 == 1)
 (cond (srcIn 6 (pickS (pickS s 12) 4))
 (cond (srcIn 6 (pickS (pickS (pickS s 12) 4) 65536))
 (K (.float .f32 (fromV (IntKind.wrap IntKind.i64 (IntKind.wrap IntKind.i64 (pickV (pickS (pickS s 12) 4) 65536 * 65536) + pickV (pickS (pickS (pickS s 12) 4) 65536) 65536)))) [(.box [(.vec (.int .u8) (Prod.fst (pickS (pickS (pickS (pickS s 12) 4) 65536) 65536))), (.int .i64 (Prod.fst (Prod.snd (pickS (pickS (pickS (pickS s 12) 4) 65536) 65536)))), (.int .u64 (Prod.snd (Prod.snd (pickS (pickS (pickS (pickS s 12) 4) 65536) 65536))))])])
 (False))
 (False))
 (cond (pickV (pickS s 12) 4 == 2)
 (cond (srcIn 6 (pickS (pickS s 12) 4))
 (K (.float .f32 (fromV (IntKind.wrap IntKind.i64 (pickV (pickS (pickS s 12) 4) 65536 * 65536)))) [(.box [(.vec (.int .u8) (Prod.fst (pickS (pickS (pickS s 12) 4) 65536))), (.int .i64 (Prod.fst (Prod.snd (pickS (pickS (pickS s 12) 4) 65536)))), (.int .u64 (Prod.snd (Prod.snd (pickS (pickS (pickS s 12) 4) 65536))))])])
 (False))
 (cond (srcIn 5 (pickS (pickS s 12) 4))
 (cond (srcIn 6 (plainS (pickS (pickS s 12) 4)) && decide (1 ≤ 4))
 (K (.float .f32 (fmul FloatKind.f32 (plainV (pickS (pickS s (12 : Int)) (4 : Int))) (fromV (Option.getD [(8388608 : Int), (2130706432 : Int), (1610612736 : Int), (536870912 : Int)][Int.toNat (pickV (plainS (pickS (pickS s (12 : Int)) (4 : Int))) (↑(4 : Nat) : Int))]? (0 : Int))))) [(.box [(.vec (.int .u8) (Prod.fst (pickS (plainS (pickS (pickS s 12) 4)) (↑4 : Int)))), (.int .i64 (Prod.fst (Prod.snd (pickS (plainS (pickS (pickS s 12) 4)) (↑4 : Int))))), (.int .u64 (Prod.snd (Prod.snd (pickS (plainS (pickS (pickS s 12) 4)) (↑4 : Int)))))])])
 (False))
 (False)))))
 (False)))
 (False) := by kernel_rfl
noncomputable def s_spec_l01DrawFloat : Sm := semP tSrc [] (fun s x => match x with | _ => srcIn 2 s) fun s x => match x with | _ => (.float .f32 (floatV s), floatS s)
theorem ok_spec_l01DrawFloat : FnOkL Try.prog 171 s_spec_l01DrawFloat := fnOkO_box (fnOkO_runC (C := c_spec_l01DrawFloat) rfl mixed (.cons ok_spec_l01From .nil) .nil (.cons ok_spec_l00Src_pick (.cons ok_spec_l00Src_one (.cons ok_spec_l00Src_among (.cons ok_spec_l01DrawPlain .nil)))) Try.func171 (by kernel_rfl)) fun (s : SrcD) (x : Unit) ws wf hg K h => by
  obtain ⟨⟩ := x
  replace hg : (srcIn 2 s) = true := hg
  replace h : K (.float .f32 (floatV s)) [.box (enc tSrc (floatS s))] := h
  rw [w_spec_l01DrawFloat s  K]
  have g6 := srcIn_mono (M := 6) hg (by omega)
  have g1 := srcIn_pick 12 hg
  have g2 := srcIn_pick 4 g1
  have g3 := srcIn_pick 65536 g2
  have hb : bytes s.1 := bytes_of ws.1
  have b1 : bytes (pickS s 12).1 := by rw [pickS_1]; exact hb
  have b2 : bytes (pickS (pickS s 12) 4).1 := by rw [pickS_1]; exact b1
  have b3 : bytes (pickS (pickS (pickS s 12) 4) 65536).1 := by rw [pickS_1]; exact b2
  have r1 := pickV_range (s := pickS (pickS s 12) 4) b2 (n := 65536) (by omega)
  have r2 := pickV_range (s := pickS (pickS (pickS s 12) 4) 65536) b3 (n := 65536) (by omega)
  have gp : srcIn 6 (plainS (pickS (pickS s 12) 4)) = true := srcIn_pick 4 (srcIn_pick 129 g2)
  rw [i64_of (n := pickV (pickS (pickS s 12) 4) 65536 * 65536) (by omega) (by omega), i64_of (n := pickV (pickS (pickS s 12) 4) 65536 * 65536 + pickV (pickS (pickS (pickS s 12) 4) 65536) 65536) (by omega) (by omega)]
  rw [g6, srcIn_mono (M := 6) g1 (by omega), srcIn_mono (M := 5) g1 (by omega), srcIn_mono (M := 6) g2 (by omega), srcIn_mono (M := 5) g2 (by omega), srcIn_mono (M := 6) g3 (by omega), gp]
  unfold floatV floatS at h
  simp only [cond_true]
  cases e1 : !(pickV s 12 == 0) <;> rw [e1] at h
  · simp only [cond_false] at h ⊢
    cases e2 : pickV (pickS s 12) 4 == 0 <;> rw [e2] at h
    · simp only [cond_false] at h ⊢
      cases e3 : pickV (pickS s 12) 4 == 1 <;> rw [e3] at h
      · simp only [cond_false] at h ⊢
        cases e4 : pickV (pickS s 12) 4 == 2 <;> rw [e4] at h <;> exact h
      · exact h
    · exact h
  · exact h

def drawnV (s : SrcD) : V3 := (smallV (pickS s 10), bif pickV s 10 == 0 then floatV (smallS (smallS (smallS (pickS s 10)))) else smallV (smallS (pickS s 10)), smallV (smallS (smallS (pickS s 10))))
def drawnS (s : SrcD) : SrcD := bif pickV s 10 == 0 then floatS (smallS (smallS (smallS (pickS s 10)))) else smallS (smallS (smallS (pickS s 10)))
noncomputable def c_spec_l01DrawVector : Ctx := mkC Try.prog tyT [] [] [(127, s_spec_l00Src_one), (69, s_spec_l01DrawSmall), (171, s_spec_l01DrawFloat)] 21 (fun _ => none) 1
theorem w_spec_l01DrawVector (s : SrcD) (K : V → Heap → Prop) : wpFnO c_spec_l01DrawVector Try.f151 (.ptr 0 0 :: encAs [] ()) [.box (enc tSrc s)] K =
 cond (srcIn 6 s)
 (cond (inS 1000000 (pickS s 10))
 (cond (inS 1000000 (smallS (pickS s 10)))
 (cond (inS 1000000 (smallS (smallS (pickS s 10))))
 (cond (pickV s 10 == 0)
 (cond (srcIn 2 (smallS (smallS (smallS (pickS s 10)))))
 (K (.agg [(.float .f32 (smallV (pickS s 10))), (.float .f32 (floatV (smallS (smallS (smallS (pickS s 10)))))), (.float .f32 (smallV (smallS (smallS (pickS s 10)))))]) [(.box [(.vec (.int .u8) (Prod.fst (floatS (smallS (smallS (smallS (pickS s 10))))))), (.int .i64 (Prod.fst (Prod.snd (floatS (smallS (smallS (smallS (pickS s 10)))))))), (.int .u64 (Prod.snd (Prod.snd (floatS (smallS (smallS (smallS (pickS s 10))))))))])])
 (False))
 (K (.agg [(.float .f32 (smallV (pickS s 10))), (.float .f32 (smallV (smallS (pickS s 10)))), (.float .f32 (smallV (smallS (smallS (pickS s 10)))))]) [(.box [(.vec (.int .u8) (Prod.fst (smallS (smallS (smallS (pickS s 10)))))), (.int .i64 (Prod.fst (Prod.snd (smallS (smallS (smallS (pickS s 10))))))), (.int .u64 (Prod.snd (Prod.snd (smallS (smallS (smallS (pickS s 10)))))))])]))
 (False))
 (False))
 (False))
 (False) := by kernel_rfl
noncomputable def s_spec_l01DrawVector : Sm := semP tSrc [] (fun s x => match x with | _ => inS 100000 s) fun s x => match x with | _ => (.agg (enc tV (drawnV s)), drawnS s)
theorem ok_spec_l01DrawVector : FnOkL Try.prog 151 s_spec_l01DrawVector := fnOkO_box (fnOkO_runC (C := c_spec_l01DrawVector) rfl mixed .nil .nil (.cons ok_spec_l00Src_one (.cons ok_spec_l01DrawSmall (.cons ok_spec_l01DrawFloat .nil))) Try.func151 (by kernel_rfl)) fun (s : SrcD) (x : Unit) ws wf hg K h => by
  obtain ⟨⟩ := x
  replace hg : (inS 100000 s) = true := hg
  replace h : K (.agg (enc tV (drawnV s))) [.box (enc tSrc (drawnS s))] := h
  rw [w_spec_l01DrawVector s  K]
  have F1 := far_pick s 10
  have F2 := F1.trans (far_small (pickS s 10))
  have F3 := F2.trans (far_small (smallS (pickS s 10)))
  have F4 := F3.trans (far_small (smallS (smallS (pickS s 10))))
  have s6 : srcIn 6 s = true := inS_src hg (by omega) 6 (by omega)
  have i1 : inS 1000000 (pickS s 10) = true := F1.ok hg (by omega)
  have i2 : inS 1000000 (smallS (pickS s 10)) = true := F2.ok hg (by omega)
  have i3 : inS 1000000 (smallS (smallS (pickS s 10))) = true := F3.ok hg (by omega)
  have s2 : srcIn 2 (smallS (smallS (smallS (pickS s 10)))) = true := inS_src (F4.ok hg (m := 100008) (by omega)) (by omega) 2 (by omega)
  rw [s6, i1, i2, i3, s2]
  unfold drawnV drawnS at h
  cases e : pickV s 10 == 0 <;> rw [e] at h <;> exact h

def drawnPV (s : SrcD) : V3 := bif pickV s 4 == 0 then drawnV (pickS s 4) else (smallV (pickS s 4), smallV (smallS (pickS s 4)), smallV (smallS (smallS (pickS s 4))))
def drawnPS (s : SrcD) : SrcD := bif pickV s 4 == 0 then drawnS (pickS s 4) else smallS (smallS (smallS (pickS s 4)))
noncomputable def c_spec_l02DrawPoint : Ctx := mkC Try.prog tyT [] [] [(127, s_spec_l00Src_one), (151, s_spec_l01DrawVector), (69, s_spec_l01DrawSmall)] 18 (fun _ => none) 1
theorem w_spec_l02DrawPoint (s : SrcD) (K : V → Heap → Prop) : wpFnO c_spec_l02DrawPoint Try.f113 (.ptr 0 0 :: encAs [] ()) [.box (enc tSrc s)] K =
 cond (srcIn 6 s)
 (cond (pickV s 4 == 0)
 (cond (inS 100000 (pickS s 4))
 (K (.agg [(.float .f32 (Prod.fst (drawnV (pickS s 4)))), (.float .f32 (Prod.fst (Prod.snd (drawnV (pickS s 4))))), (.float .f32 (Prod.snd (Prod.snd (drawnV (pickS s 4)))))]) [(.box [(.vec (.int .u8) (Prod.fst (drawnS (pickS s 4)))), (.int .i64 (Prod.fst (Prod.snd (drawnS (pickS s 4))))), (.int .u64 (Prod.snd (Prod.snd (drawnS (pickS s 4)))))])])
 (False))
 (cond (inS 1000000 (pickS s 4))
 (cond (inS 1000000 (smallS (pickS s 4)))
 (cond (inS 1000000 (smallS (smallS (pickS s 4))))
 (K (.agg [(.float .f32 (smallV (pickS s 4))), (.float .f32 (smallV (smallS (pickS s 4)))), (.float .f32 (smallV (smallS (smallS (pickS s 4)))))]) [(.box [(.vec (.int .u8) (Prod.fst (smallS (smallS (smallS (pickS s 4)))))), (.int .i64 (Prod.fst (Prod.snd (smallS (smallS (smallS (pickS s 4))))))), (.int .u64 (Prod.snd (Prod.snd (smallS (smallS (smallS (pickS s 4)))))))])])
 (False))
 (False))
 (False)))
 (False) := by kernel_rfl
noncomputable def s_spec_l02DrawPoint : Sm := semP tSrc [] (fun s x => match x with | _ => inS 1000 s) fun s x => match x with | _ => (.agg (enc tV (drawnPV s)), drawnPS s)
theorem ok_spec_l02DrawPoint : FnOkL Try.prog 113 s_spec_l02DrawPoint := fnOkO_box (fnOkO_runC (C := c_spec_l02DrawPoint) rfl mixed .nil .nil (.cons ok_spec_l00Src_one (.cons ok_spec_l01DrawVector (.cons ok_spec_l01DrawSmall .nil))) Try.func113 (by kernel_rfl)) fun (s : SrcD) (x : Unit) ws wf hg K h => by
  obtain ⟨⟩ := x
  replace hg : (inS 1000 s) = true := hg
  replace h : K (.agg (enc tV (drawnPV s))) [.box (enc tSrc (drawnPS s))] := h
  rw [w_spec_l02DrawPoint s  K]
  have F1 := far_pick s 4
  have F2 := F1.trans (far_small (pickS s 4))
  have F3 := F2.trans (far_small (smallS (pickS s 4)))
  have s6 : srcIn 6 s = true := inS_src hg (by omega) 6 (by omega)
  have s0 : inS 100000 (pickS s 4) = true := F1.ok hg (by omega)
  have i1 : inS 1000000 (pickS s 4) = true := F1.ok hg (by omega)
  have i2 : inS 1000000 (smallS (pickS s 4)) = true := F2.ok hg (by omega)
  have i3 : inS 1000000 (smallS (smallS (pickS s 4))) = true := F3.ok hg (by omega)
  unfold drawnPV drawnPS at h
  refine cond_yes s6 ?_
  cases e : pickV s 4 == 0 with
  | true => rw [e] at h; exact cond_intro rfl (cond_yes s0 h)
  | false => rw [e] at h; exact cond_no rfl (cond_yes i1 (cond_yes i2 (cond_yes i3 h)))

noncomputable def c_spec_B10Point : Ctx := mkC Try.prog tyT [] [] [(67, s_spec_l00From), (113, s_spec_l02DrawPoint)] 8 (fun _ => none) 0
theorem w_spec_B10Point (xs : List Int) (K : V → Heap → Prop) : wpFn c_spec_B10Point Try.f55 (encAs [.cell tB] (xs, ())) [] K =
 cond (inS 1000 (xs, 0, 0))
 (K (.agg [(.float .f32 (Prod.fst (drawnPV (xs, 0, 0)))), (.float .f32 (Prod.fst (Prod.snd (drawnPV (xs, 0, 0))))), (.float .f32 (Prod.snd (Prod.snd (drawnPV (xs, 0, 0)))))]) [])
 (False) := by kernel_rfl
noncomputable def s_spec_B10Point : Sm := semT [.cell tB] fun x => match x with | (xs, _) => .agg (enc tV (drawnPV (xs, 0, 0)))
theorem ok_spec_B10Point : FnOk Try.prog 55 s_spec_B10Point := fnOk_typed (fnOk_runC (C := c_spec_B10Point) rfl mixed .nil .nil (.cons ok_spec_l00From (.cons ok_spec_l02DrawPoint .nil)) Try.func55 (by kernel_rfl)) fun (x : ((List Int) × Unit)) wf K h => by
  obtain ⟨xs, ⟨⟩⟩ := x
  replace h : K (.agg (enc tV (drawnPV (xs, 0, 0)))) [] := h
  rw [w_spec_B10Point xs K]
  exact cond_yes (inS_iff.2 ⟨Int.le_refl _, by show (0 : Int) ≤ _; decide⟩) h

noncomputable def c_spec_l01Scale : Ctx := mkC Try.prog tyT [] [] [] 18 (fun _ => none) 0
theorem w_spec_l01Scale (v : V3) (k : Nat) (K : V → Heap → Prop) : wpFn c_spec_l01Scale Try.f153 (encAs [.agg tV, .cell tF] (v, k, ())) [] K =
 K (.agg [(.float .f32 (fmul FloatKind.f32 (Prod.fst v) k)), (.float .f32 (fmul FloatKind.f32 (Prod.fst (Prod.snd v)) k)), (.float .f32 (fmul FloatKind.f32 (Prod.snd (Prod.snd v)) k))]) [] := by kernel_rfl
noncomputable def s_spec_l01Scale : Sm := semT [.agg tV, .cell tF] fun x => match x with | (v, k, _) => .agg (enc tV (scaleV v k))
theorem ok_spec_l01Scale : FnOk Try.prog 153 s_spec_l01Scale := fnOk_typed (fnOk_runC (C := c_spec_l01Scale) rfl mixed .nil .nil .nil Try.func153 (by kernel_rfl)) fun (x : ((V3) × (Nat) × Unit)) wf K h => by
  obtain ⟨v, k, ⟨⟩⟩ := x
  replace h : K (.agg (enc tV (scaleV v k))) [] := h
  rw [w_spec_l01Scale v k K]
  exact h

def spUnitV (v : V3) : V3 := bif feq .f32 (longV v) 0 || (!finN (longV v) || !finN (fdiv .f32 1065353216 (longV v))) then (0, 0, 0) else scaleV v (fdiv .f32 1065353216 (longV v))
noncomputable def c_spec_l03Unit : Ctx := mkC Try.prog tyT [(107, s_spec_l01Long), (152, s_spec_l01Finite), (153, s_spec_l01Scale)] [] [] 25 (fun _ => none) 0
theorem w_spec_l03Unit (v : V3) (K : V → Heap → Prop) : wpFn c_spec_l03Unit Try.f114 (encAs [.agg tV] (v, ())) [] K =
 cond (feq FloatKind.f32 (longV v) 0)
 (K (.agg [(.float .f32 0), (.float .f32 0), (.float .f32 0)]) [])
 (cond (!finN (longV v))
 (K (.agg [(.float .f32 0), (.float .f32 0), (.float .f32 0)]) [])
 (cond (!finN (fdiv FloatKind.f32 1065353216 (longV v)))
 (K (.agg [(.float .f32 0), (.float .f32 0), (.float .f32 0)]) [])
 (K (.agg [(.float .f32 (Prod.fst (scaleV v (fdiv FloatKind.f32 1065353216 (longV v))))), (.float .f32 (Prod.fst (Prod.snd (scaleV v (fdiv FloatKind.f32 1065353216 (longV v)))))), (.float .f32 (Prod.snd (Prod.snd (scaleV v (fdiv FloatKind.f32 1065353216 (longV v))))))]) []))) := by kernel_rfl
noncomputable def s_spec_l03Unit : Sm := semT [.agg tV] fun x => match x with | (v, _) => .agg (enc tV (spUnitV v))
theorem ok_spec_l03Unit : FnOk Try.prog 114 s_spec_l03Unit := fnOk_typed (fnOk_runC (C := c_spec_l03Unit) rfl mixed (.cons ok_spec_l01Long (.cons ok_spec_l01Finite (.cons ok_spec_l01Scale .nil))) .nil .nil Try.func114 (by kernel_rfl)) fun (x : ((V3) × Unit)) wf K h => by
  obtain ⟨v, ⟨⟩⟩ := x
  replace h : K (.agg (enc tV (spUnitV v))) [] := h
  rw [w_spec_l03Unit v K]
  revert h
  unfold spUnitV
  cases feq .f32 (longV v) 0 <;> cases finN (longV v) <;> cases finN (fdiv .f32 1065353216 (longV v)) <;> exact id

noncomputable def c_spec_UnitOf : Ctx := mkC Try.prog tyT [(114, s_spec_l03Unit)] [] [] 5 (fun _ => none) 0
theorem w_spec_UnitOf (v : V3) (K : V → Heap → Prop) : wpFn c_spec_UnitOf Try.f56 (encAs [.agg tV] (v, ())) [] K =
 K (.agg [(.float .f32 (Prod.fst (spUnitV v))), (.float .f32 (Prod.fst (Prod.snd (spUnitV v)))), (.float .f32 (Prod.snd (Prod.snd (spUnitV v))))]) [] := by kernel_rfl
noncomputable def s_spec_UnitOf : Sm := semT [.agg tV] fun x => match x with | (v, _) => .agg (enc tV (spUnitV v))
theorem ok_spec_UnitOf : FnOk Try.prog 56 s_spec_UnitOf := fnOk_typed (fnOk_runC (C := c_spec_UnitOf) rfl mixed (.cons ok_spec_l03Unit .nil) .nil .nil Try.func56 (by kernel_rfl)) fun (x : ((V3) × Unit)) wf K h => by
  obtain ⟨v, ⟨⟩⟩ := x
  replace h : K (.agg (enc tV (spUnitV v))) [] := h
  rw [w_spec_UnitOf v K]
  exact h

def ambX (x : Nat) : Nat := lsV (bif !fge .f32 x 0 then 0 else x) 1065353216
def ambR (ns : ShapeD) (p n : V3) (st : Nat) (k : Int) : Nat := fdiv .f32 (fsub .f32 (fmul .f32 (FloatKind.f32.nearest k) st) (disV ns (addV p (scaleV n (fmul .f32 (FloatKind.f32.nearest k) st))))) (fmul .f32 (FloatKind.f32.nearest k) st)
theorem ambX_true {x : Nat} (h : (!fge .f32 x 0) = true) : ambX x = lsV 0 1065353216 := by unfold ambX; rw [h]; rfl
theorem ambX_false {x : Nat} (h : (!fge .f32 x 0) = false) : ambX x = lsV x 1065353216 := by unfold ambX; rw [h]; rfl
def ambT (ns : ShapeD) (p n : V3) (st : Nat) (k : Int) : Nat := ambX (ambR ns p n st k)
def ambS (ns : ShapeD) (p n : V3) (st : Nat) : Nat → Nat
  | 0 => 0
  | k + 1 => fadd .f32 (ambS ns p n st k) (ambT ns p n st ((k + 1 : Nat) : Int))
def ambV (ns : ShapeD) (p n : V3) (st : Nat) (c : Int) : Nat := fsub .f32 1065353216 (fdiv .f32 (ambS ns p n st c.toNat) (FloatKind.f32.nearest c))
noncomputable def a_impl_Shape_ambient : Nat → Option Ann := fun n => bif Nat.beq n 3 then some ⟨[0,3,4,6,7,11,12],2,false⟩ else none
noncomputable def c_impl_Shape_ambient : Ctx := mkC Try.prog tyT [(110, s_impl_ScaleVector), (109, s_impl_AddVectors), (73, s_impl_Shape_at), (111, s_impl_lesser)] [] [] 49 a_impl_Shape_ambient 0
noncomputable def fr_impl_Shape_ambient_3 (ns : ShapeD) (p w : V3) (st : Nat) (c : Int) (sm : Nat) (k : Int) : Fr := [(0, .ref [.vec tN ns] 0), (3, .float .f32 st), (4, .int .i64 c), (6, .ptr 0 0), (7, .ptr 1 0), (11, .float .f32 sm), (12, .int .i64 k)]
noncomputable def hp_impl_Shape_ambient_3 (ns : ShapeD) (p w : V3) (st : Nat) (c : Int) (sm : Nat) (k : Int) : Heap := [.box (enc tV p), .box (enc tV w)]
theorem r_impl_Shape_ambient_3 (ns : ShapeD) (p w : V3) (st : Nat) (c : Int) (sm : Nat) (k : Int) (Kn : Fr → Heap → Prop) (K : V → Heap → Prop) : round c_impl_Shape_ambient ⟨[0,3,4,6,7,11,12],2,false⟩ (lb c_impl_Shape_ambient 3 Try.f112) (fr_impl_Shape_ambient_3 ns p w st c sm k) (hp_impl_Shape_ambient_3 ns p w st c sm k) Kn (lk c_impl_Shape_ambient 3 Try.f112 [] K) =
 cond (decide (k ≤ c))
 (cond (okS ns)
 (cond (!fge FloatKind.f32 (fdiv FloatKind.f32 (fsub FloatKind.f32 (fmul FloatKind.f32 (FloatKind.nearest FloatKind.f32 k) st) (disV ns (addV p (scaleV w (fmul FloatKind.f32 (FloatKind.nearest FloatKind.f32 k) st))))) (fmul FloatKind.f32 (FloatKind.nearest FloatKind.f32 k) st)) 0)
 (Kn [(0, (.ref [(.vec tN (ns))] 0)), (3, (.float .f32 (st))), (4, (.int .i64 (c))), (6, (.ptr 0 0)), (7, (.ptr 1 0)), (11, (.float .f32 (fadd FloatKind.f32 sm (lsV 0 1065353216)))), (12, (.int .i64 (IntKind.wrap IntKind.i64 (k + 1))))] [(.box [(.float .f32 (Prod.fst p)), (.float .f32 (Prod.fst (Prod.snd p))), (.float .f32 (Prod.snd (Prod.snd p)))]), (.box [(.float .f32 (Prod.fst w)), (.float .f32 (Prod.fst (Prod.snd w))), (.float .f32 (Prod.snd (Prod.snd w)))])])
 (Kn [(0, (.ref [(.vec tN (ns))] 0)), (3, (.float .f32 (st))), (4, (.int .i64 (c))), (6, (.ptr 0 0)), (7, (.ptr 1 0)), (11, (.float .f32 (fadd FloatKind.f32 sm (lsV (fdiv FloatKind.f32 (fsub FloatKind.f32 (fmul FloatKind.f32 (FloatKind.nearest FloatKind.f32 k) st) (disV ns (addV p (scaleV w (fmul FloatKind.f32 (FloatKind.nearest FloatKind.f32 k) st))))) (fmul FloatKind.f32 (FloatKind.nearest FloatKind.f32 k) st)) 1065353216)))), (12, (.int .i64 (IntKind.wrap IntKind.i64 (k + 1))))] [(.box [(.float .f32 (Prod.fst p)), (.float .f32 (Prod.fst (Prod.snd p))), (.float .f32 (Prod.snd (Prod.snd p)))]), (.box [(.float .f32 (Prod.fst w)), (.float .f32 (Prod.fst (Prod.snd w))), (.float .f32 (Prod.snd (Prod.snd w)))])]))
 (False))
 (K (.float .f32 (fsub FloatKind.f32 1065353216 (fdiv FloatKind.f32 sm (FloatKind.nearest FloatKind.f32 c)))) []) := by kernel_rfl
theorem w_impl_Shape_ambient (ns : ShapeD) (p w : V3) (st : Nat) (c : Int) (K : V → Heap → Prop) : wpFn c_impl_Shape_ambient Try.f112 (encAs [.ref tS, .agg tV, .agg tV, .cell tF, .cell tI] (ns, p, w, st, c, ())) [] K =
 LoopE c_impl_Shape_ambient ⟨[0, 3, 4, 6, 7, 11, 12], 2, false⟩ (lb c_impl_Shape_ambient 3 Try.f112) [(0, (.ref [(.vec tN (ns))] 0)), (3, (.float .f32 (st))), (4, (.int .i64 (c))), (6, (.ptr 0 0)), (7, (.ptr 1 0)), (11, (.float .f32 0)), (12, (.int .i64 1))] [(.box [(.float .f32 (Prod.fst p)), (.float .f32 (Prod.fst (Prod.snd p))), (.float .f32 (Prod.snd (Prod.snd p)))]), (.box [(.float .f32 (Prod.fst w)), (.float .f32 (Prod.fst (Prod.snd w))), (.float .f32 (Prod.snd (Prod.snd w)))])] (lk c_impl_Shape_ambient 3 Try.f112 [] K) := by kernel_rfl
noncomputable def s_impl_Shape_ambient : Sm := semG [.ref tS, .agg tV, .agg tV, .cell tF, .cell tI] (fun x => match x with | (ns, p, w, st, c, _) => okS ns && (decide (0 ≤ c) && decide (c ≤ 100))) fun x => match x with | (ns, p, w, st, c, _) => .float .f32 (ambV ns p w st c)
theorem ok_impl_Shape_ambient : FnOk Try.prog 112 s_impl_Shape_ambient := fnOk_typedG (fnOk_runC (C := c_impl_Shape_ambient) rfl mixed (.cons ok_impl_ScaleVector (.cons ok_impl_AddVectors (.cons ok_impl_Shape_at (.cons ok_impl_lesser .nil)))) .nil .nil Try.func112 (by kernel_rfl)) fun (x : ((ShapeD) × (V3) × (V3) × (Nat) × (Int) × Unit)) wf hg K h => by
  obtain ⟨ns, p, w, st, c, ⟨⟩⟩ := x
  replace hg : (okS ns && (decide (0 ≤ c) && decide (c ≤ 100))) = true := hg
  replace h : K (.float .f32 (ambV ns p w st c)) [] := h
  rw [w_impl_Shape_ambient ns p w st c K]
  simp only [Bool.and_eq_true, decide_eq_true_eq] at hg
  obtain ⟨h0, c1, c2⟩ := hg
  obtain ⟨n, rfl⟩ : ∃ n : Nat, c = (n : Int) := ⟨c.toNat, by omega⟩
  unfold ambV at h
  rw [Int.toNat_natCast] at h
  refine loop_run (σ := Nat) (fun i => fr_impl_Shape_ambient_3 ns p w st n (ambS ns p w st i) ((i + 1 : Nat) : Int)) (fun i => hp_impl_Shape_ambient_3 ns p w st n (ambS ns p w st i) ((i + 1 : Nat) : Int)) (fun i => i ≤ n) (fun i => n - i) ?_ 0 (Nat.zero_le _)
  intro i hi Kn hk
  rw [r_impl_Shape_ambient_3 ns p w st n (ambS ns p w st i) ((i + 1 : Nat) : Int) Kn K]
  by_cases hlt : i < n
  · have next := hk (i + 1) hlt (by omega)
    have hu : ambS ns p w st (i + 1) = fadd .f32 (ambS ns p w st i) (ambT ns p w st ((i + 1 : Nat) : Int)) := rfl
    have w2 : IntKind.i64.wrap (((i + 1 : Nat) : Int) + 1) = ((i + 1 + 1 : Nat) : Int) := i64_of (by omega) (by omega)
    have hT : ambT ns p w st ((i + 1 : Nat) : Int) = ambX (ambR ns p w st ((i + 1 : Nat) : Int)) := rfl
    rw [hu, hT] at next
    refine cond_intro (decide_eq_true (by omega)) ?_
    refine cond_intro h0 ?_
    rw [w2]
    clear hu hT
    have hR : fdiv .f32 (fsub .f32 (fmul .f32 (FloatKind.f32.nearest ((i + 1 : Nat) : Int)) st) (disV ns (addV p (scaleV w (fmul .f32 (FloatKind.f32.nearest ((i + 1 : Nat) : Int)) st))))) (fmul .f32 (FloatKind.f32.nearest ((i + 1 : Nat) : Int)) st) = ambR ns p w st ((i + 1 : Nat) : Int) := by unfold ambR; exact Eq.refl _
    rw [hR]
    clear hR
    generalize ambR ns p w st ((i + 1 : Nat) : Int) = x at *
    generalize ambS ns p w st i = sm at *
    refine cond_both (fun e => ?_) (fun e => ?_)
    · rw [ambX_true e] at next; exact next
    · rw [ambX_false e] at next; exact next
  · have e : i = n := by omega
    subst e
    rw [d_f (show ¬ ((i + 1 : Nat) : Int) ≤ (i : Int) by omega)]
    exact h

noncomputable def c_impl_AmbientAt : Ctx := mkC Try.prog tyT [(33, s_impl_ValidShape), (77, s_impl_stepOk), (79, s_impl_in), (112, s_impl_Shape_ambient)] [] [] 30 (fun _ => none) 0
theorem w_impl_AmbientAt (ns : ShapeD) (p w : V3) (st : Nat) (c : Int) (K : V → Heap → Prop) : wpFn c_impl_AmbientAt Try.f54 (encAs [.agg tS, .agg tV, .agg tV, .cell tF, .cell tI] (ns, p, w, st, c, ())) [] K =
 cond (!validS ns)
 (K (.tuple [(.float .f32 0), (.bool false)]) [])
 (cond (!(finN st && fgt FloatKind.f32 st 0))
 (K (.tuple [(.float .f32 0), (.bool false)]) [])
 (cond (!inR c 1 8)
 (K (.tuple [(.float .f32 0), (.bool false)]) [])
 (cond (okS ns && (decide (0 ≤ c) && decide (c ≤ 100)))
 (K (.tuple [(.float .f32 (ambV ns p w st c)), (.bool true)]) [])
 (False)))) := by kernel_rfl
noncomputable def s_impl_AmbientAt : Sm := semG [.agg tS, .agg tV, .agg tV, .cell tF, .cell tI] (fun x => match x with | (ns, p, w, st, c, _) => okS ns && ((finN st && fgt .f32 st 0) && inR c 1 8)) fun x => match x with | (ns, p, w, st, c, _) => .tuple [.float .f32 (ambV ns p w st c), .bool true]
theorem ok_impl_AmbientAt : FnOk Try.prog 54 s_impl_AmbientAt := fnOk_typedG (fnOk_runC (C := c_impl_AmbientAt) rfl mixed (.cons ok_impl_ValidShape (.cons ok_impl_stepOk (.cons ok_impl_in (.cons ok_impl_Shape_ambient .nil)))) .nil .nil Try.func54 (by kernel_rfl)) fun (x : ((ShapeD) × (V3) × (V3) × (Nat) × (Int) × Unit)) wf hg K h => by
  obtain ⟨ns, p, w, st, c, ⟨⟩⟩ := x
  replace hg : (okS ns && ((finN st && fgt .f32 st 0) && inR c 1 8)) = true := hg
  replace h : K (.tuple [.float .f32 (ambV ns p w st c), .bool true]) [] := h
  rw [w_impl_AmbientAt ns p w st c K]
  simp only [Bool.and_eq_true] at hg
  obtain ⟨h0, ⟨h1, h2⟩, h3⟩ := hg
  obtain ⟨g1, g2, g3, g4⟩ := okS_good h0
  have r := inR_iff.1 h3
  rw [g2, h0, h1, h2, h3, d_t (show 0 ≤ c by omega), d_t (show c ≤ 100 by omega)]
  exact h

def shRay (p n l : V3) (a : Nat) : RayD := (addV p (scaleV n (fmul .f32 1073741824 a)), subV l (addV p (scaleV n (fmul .f32 1073741824 a))))
noncomputable def c_impl_InShadow : Ctx := mkC Try.prog tyT [(33, s_impl_ValidShape), (21, s_impl_ValidMarch), (110, s_impl_ScaleVector), (109, s_impl_AddVectors), (39, s_impl_LessVectors), (20, s_impl_ValidRay), (61, s_impl_LongOf), (111, s_impl_lesser), (71, s_impl_Shape_march)] [] [] 49 (fun _ => none) 0 false [] false true true []
theorem w_impl_InShadow (ns : ShapeD) (p w l : V3) (a c : Nat) (m : Int) (K : V → Heap → Prop) : wpFn c_impl_InShadow Try.f53 (encAs [.agg tS, .agg tV, .agg tV, .agg tV, .agg tM] (ns, p, w, l, (a, c, m), ())) [] K =
 cond (!validS ns)
 (K (.tuple [(.bool false), (.bool false)]) [])
 (cond (!marB (a, c, m))
 (K (.tuple [(.bool false), (.bool false)]) [])
 (cond (!rayB (addV p (scaleV w (fmul FloatKind.f32 1073741824 a)), subV l (addV p (scaleV w (fmul FloatKind.f32 1073741824 a)))))
 (K (.tuple [(.bool false), (.bool false)]) [])
 (cond (okS ns && inR m 1 64)
 (K (.tuple [(.bool (Prod.fst (marV ns (addV p (scaleV w (fmul FloatKind.f32 1073741824 a)), subV l (addV p (scaleV w (fmul FloatKind.f32 1073741824 a)))) (a, lsV c (longV (subV l (addV p (scaleV w (fmul FloatKind.f32 1073741824 a))))), m)) == 1)), (.bool true)]) [])
 (False)))) := by kernel_rfl
noncomputable def s_impl_InShadow : Sm := semG [.agg tS, .agg tV, .agg tV, .agg tV, .agg tM] (fun x => match x with | (ns, p, w, l, (a, c, m), _) => okS ns && (marB (a, c, m) && rayB (shRay p w l a))) fun x => match x with | (ns, p, w, l, (a, c, m), _) => .tuple [.bool ((marV ns (shRay p w l a) (a, lsV c (longV (shRay p w l a).2), m)).1 == 1), .bool true]
theorem ok_impl_InShadow : FnOk Try.prog 53 s_impl_InShadow := fnOk_typedG (fnOk_runC (C := c_impl_InShadow) rfl mixed (.cons ok_impl_ValidShape (.cons ok_impl_ValidMarch (.cons ok_impl_ScaleVector (.cons ok_impl_AddVectors (.cons ok_impl_LessVectors (.cons ok_impl_ValidRay (.cons ok_impl_LongOf (.cons ok_impl_lesser (.cons ok_impl_Shape_march .nil))))))))) .nil .nil Try.func53 (by kernel_rfl)) fun (x : ((ShapeD) × (V3) × (V3) × (V3) × ((Nat) × (Nat) × (Int)) × Unit)) wf hg K h => by
  obtain ⟨ns, p, w, l, ⟨a, c, m⟩, ⟨⟩⟩ := x
  replace hg : (okS ns && (marB (a, c, m) && rayB (shRay p w l a))) = true := hg
  replace h : K (.tuple [.bool ((marV ns (shRay p w l a) (a, lsV c (longV (shRay p w l a).2), m)).1 == 1), .bool true]) [] := h
  rw [w_impl_InShadow ns p w l a c m K]
  simp only [Bool.and_eq_true] at hg
  obtain ⟨h0, h1, h2⟩ := hg
  obtain ⟨g1, g2, g3, g4⟩ := okS_good h0
  have h3 : inR m 1 64 = true := by
    unfold marB at h1
    simp only [Bool.and_eq_true] at h1
    exact h1.2.2.2
  unfold shRay at h2 h
  simp only at h2 h
  rw [g2, h1, h2, h0, h3]
  exact h

end Go.Proofs.Ytfhpmcdbfebflaa

/- Normals of shapes, single balls: walks. -/
set_option linter.unusedVariables false
set_option linter.unusedSimpArgs false
set_option maxRecDepth 100000
namespace Go.Proofs.Ytfhpmcdbfebflaa
open Go.Ev Go.Ev.Fl

noncomputable def c_laws_b10Ball : Ctx := mkC Try.prog tyT [] [] [] 8 (fun _ => none) 0 false [] false true
theorem w_laws_b10Ball (r : Nat) (K : V → Heap → Prop) : wpFn c_laws_b10Ball Try.f42 (encAs [.cell tF] (r, ())) [] K =
 K (.agg [(.vec tN ([((0 : Int), (0 : Int), (0 : Int), [r])]))]) [] := by kernel_rfl
noncomputable def s_laws_b10Ball : Sm := semT [.cell tF] fun x => match x with | (r, _) => .agg [.vec tN [(0, 0, 0, [r])]]
theorem ok_laws_b10Ball : FnOk Try.prog 42 s_laws_b10Ball := fnOk_typed (fnOk_runC (C := c_laws_b10Ball) rfl mixed .nil .nil .nil Try.func42 (by kernel_rfl)) fun (x : ((Nat) × Unit)) wf K h => by
  obtain ⟨r, ⟨⟩⟩ := x
  replace h : K (.agg [.vec tN [(0, 0, 0, [r])]]) [] := h
  rw [w_laws_b10Ball r K]
  exact h

end Go.Proofs.Ytfhpmcdbfebflaa

/- The law of lights. -/
set_option linter.unusedVariables false
set_option linter.unusedSimpArgs false
set_option maxRecDepth 100000
namespace Go.Proofs.Ytfhpmcdbfebflaa
open Go.Ev Go.Ev.Fl

theorem ambX_range (x : Nat) (hl : x < 2 * signOf .f32) : fin .f32 (ambX x) = true ∧ ambX x < 2 * signOf .f32 ∧ 0 ≤ ev .f32 (ambX x) ∧ ev .f32 (ambX x) ≤ 1 := by
  have e0 : ev .f32 0 = 0 := q_zero.x.e
  have e1 : ev .f32 1065353216 = 1 := q_one.x.e
  have z : fin .f32 0 = true ∧ (0 : Nat) < 2 * signOf .f32 := by decide
  have o : fin .f32 1065353216 = true ∧ (1065353216 : Nat) < 2 * signOf .f32 := by decide
  cases e : (!fge .f32 x 0) with
  | true =>
    rw [ambX_true e, show lsV 0 1065353216 = 0 by decide +kernel, e0]
    exact ⟨z.1, z.2, by grind, by grind⟩
  | false =>
    rw [ambX_false e]
    have hn : nan .f32 x = false := by
      cases hn : nan .f32 x with
      | false => rfl
      | true => rw [fge_nan (.inl hn)] at e; cases e
    have hx : 0 ≤ ev .f32 x := by
      rw [fge_ev hn (by decide), e0] at e
      simpa using e
    unfold lsV
    rw [flt_ev (by decide) hn, e1]
    by_cases c : (1 : Rat) < ev .f32 x
    · rw [decide_eq_true c, cond_true, e1]
      exact ⟨o.1, o.2, by grind, by grind⟩
    · rw [decide_eq_false c, cond_false]
      have h1 : ev .f32 x ≤ ev .f32 1065353216 := by rw [e1]; grind
      have h0 : ev .f32 0 ≤ ev .f32 x := by rw [e0]; exact hx
      have p1 := ev_le_iff.1 h1
      have p0 := ev_le_iff.1 h0
      have f1 := (fin_pos (x := 1065353216) (k := .f32) (by decide)).1 o.1
      have f0 := (fin_pos (x := 0) (k := .f32) (by decide)).1 z.1
      exact ⟨(fin_pos hn).2 ⟨by omega, by omega⟩, hl, hx, by rw [← e1]; exact h1⟩

theorem ambS_range (ns : ShapeD) (p n : V3) (st : Nat) : ∀ k : Nat, k ≤ 100 → fin .f32 (ambS ns p n st k) = true ∧ 0 ≤ ev .f32 (ambS ns p n st k) ∧ ev .f32 (ambS ns p n st k) ≤ (k : Rat)
  | 0, _ => ⟨q_zero.x.f, by rw [show ambS ns p n st 0 = 0 from rfl, show ev .f32 0 = 0 from q_zero.x.e]; grind, by rw [show ambS ns p n st 0 = 0 from rfl, show ev .f32 0 = 0 from q_zero.x.e]; exact Rat.natCast_nonneg⟩
  | k + 1, h => by
    obtain ⟨f, l, u⟩ := ambS_range ns p n st k (by omega)
    obtain ⟨f2, _, l2, u2⟩ := ambX_range (ambR ns p n st ((k + 1 : Nat) : Int)) (wd_div _ _).1
    have R := fadd_rnd f f2
    have V := (nearest_lit (n := ((k + 1 : Nat) : Int)) (by omega) rfl).x
    have e1 : (((k + 1 : Nat) : Int) : Rat) = (k : Rat) + 1 := by
      rw [show (((k + 1 : Nat) : Int) : Rat) = ((k + 1 : Nat) : Rat) from rfl, Rat.natCast_add]; rfl
    obtain ⟨a, b, c⟩ := rnd_between R q_zero.x V (by grind) (by rw [e1]; grind)
    exact ⟨a, b, c⟩
theorem ambV_range (ns : ShapeD) (p n : V3) (st : Nat) {c : Int} (hc : 1 ≤ c ∧ c ≤ 8) : fge .f32 (ambV ns p n st c) 0 = true ∧ fle .f32 (ambV ns p n st c) 1065353216 = true := by
  obtain ⟨m, rfl⟩ : ∃ m : Nat, c = (m : Int) := ⟨c.toNat, by omega⟩
  obtain ⟨f, l, u⟩ := ambS_range ns p n st m (by omega)
  have V := (nearest_lit (n := (m : Int)) (by omega) rfl).x
  have m1 : (1 : Rat) ≤ (m : Rat) := Rat.natCast_le_natCast.2 (show 1 ≤ m by omega)
  have em : ((m : Int) : Rat) = (m : Rat) := rfl
  have D := fdiv_rnd f V.f (by rw [V.e, em]; grind)
  rw [V.e, em] at D
  have ip := Rat.inv_pos.2 (show (0 : Rat) < (m : Rat) by grind)
  have mi := Rat.mul_inv_cancel (m : Rat) (by grind)
  have q0 : 0 ≤ ev .f32 (ambS ns p n st m) / (m : Rat) := by rw [Rat.div_def]; exact Rat.mul_nonneg l (Rat.le_of_lt ip)
  have q1 : ev .f32 (ambS ns p n st m) / (m : Rat) ≤ 1 := by
    rw [Rat.div_def]
    have := Rat.mul_le_mul_of_nonneg_right u (Rat.le_of_lt ip)
    grind
  obtain ⟨a, b, cc⟩ := rnd_between D q_zero.x q_one.x q0 q1
  have S := fsub_rnd q_one.x.f a
  rw [q_one.x.e] at S
  obtain ⟨a2, b2, c2⟩ := rnd_between S q_zero.x q_one.x (by grind) (by grind)
  have e : ambV ns p n st m = fsub .f32 1065353216 (fdiv .f32 (ambS ns p n st m) (FloatKind.f32.nearest m)) := rfl
  rw [e, fge_ev (fin_nan a2) (by decide), fle_ev (fin_nan a2) (by decide), q_zero.x.e, q_one.x.e]
  exact ⟨decide_eq_true b2, decide_eq_true c2⟩

theorem all_rangeT {N M : Nat} {p : Int → Int → Bool} (h : (List.range N).all (fun i => (List.range M).all fun j => p (Int.ofNat i) (Int.ofNat j)) = true) {n m : Int} (hn : 0 ≤ n ∧ n < N) (hm : 0 ≤ m ∧ m < M) : p n m = true :=
  all_range (p := p n) (all_range (p := fun n => (List.range M).all fun j => p n (Int.ofNat j)) h hn) hm
def lBall : ShapeD := [(0, 0, 0, [1065353216])]
def lP (j : Int) : V3 := (0, fneg .f32 (FloatKind.f32.nearest (3 + j)), 0)
def lUp : V3 := (0, 1065353216, 0)
def lL1 (i : Int) : V3 := (0, FloatKind.f32.nearest (3 + i), 0)
def lL2 (i j : Int) : V3 := (0, fsub .f32 (fneg .f32 (FloatKind.f32.nearest (3 + j))) (FloatKind.f32.nearest (3 + i)), 0)
def lK (r : RayD) : Int := (marV lBall r (1015021568, lsV 1115684864 (longV r.2), 40)).1
def lb1 (i j : Int) : Bool := (rayB (shRay (lP j) lUp (lL1 i) 1015021568) && rayB (shRay (lP j) lUp (lL2 i j) 1015021568)) && ((lK (shRay (lP j) lUp (lL1 i) 1015021568) == 1) && !(lK (shRay (lP j) lUp (lL2 i j) 1015021568) == 1))
def lPl : ShapeD := [(4, 0, 0, [0, 1065353216, 0, 0])]
def lb2 (i c : Int) : Bool := feq .f32 (ambV lPl (FloatKind.f32.nearest (3 + i), 0, 0) lUp 1048576000 (1 + c)) 1065353216
def lb3 (c : Int) : Bool := finN (fdiv .f32 (FloatKind.f32.nearest (1 + c)) 1090519040) && fgt .f32 (fdiv .f32 (FloatKind.f32.nearest (1 + c)) 1090519040) 0
theorem tab_l1 : (List.range 8).all (fun i => (List.range 5).all fun j => lb1 (Int.ofNat i) (Int.ofNat j)) = true := by decide +kernel
theorem tab_l2 : (List.range 8).all (fun i => (List.range 8).all fun j => lb2 (Int.ofNat i) (Int.ofNat j)) = true := by decide +kernel
theorem tab_l3 : (List.range 8).all (fun i => lb3 (Int.ofNat i)) = true := by decide +kernel

noncomputable def c_laws_FnLights : Ctx := mkC Try.prog tyT [(12, s_laws_b10Long), (19, s_laws_b10At), (42, s_laws_b10Ball), (53, s_impl_InShadow), (54, s_impl_AmbientAt), (13, s_spec_B10Shape), (55, s_spec_B10Point), (56, s_spec_UnitOf), (46, s_spec_B10Vector)] [] [] 119 (fun _ => none) 0 false [] false true true []
theorem w_laws_FnLights (xs ys : List Int) (K : V → Heap → Prop) : wpFn c_laws_FnLights Try.f9 (encAs [.cell tB, .cell tB] (xs, ys, ())) [] K =
 cond (decide (1048576 < List.length xs) || decide (1048576 < List.length ys))
 (K (.bool true) [])
 (cond (okS [((0 : Int), (0 : Int), (0 : Int), [(1065353216 : Nat)])] && (marB ((1015021568 : Nat), (1115684864 : Nat), (40 : Int)) && rayB (shRay ((0 : Nat), fneg FloatKind.f32 (FloatKind.nearest FloatKind.f32 (IntKind.wrap IntKind.i64 ((3 : Int) + bAtV xs (1 : Int) (5 : Int)))), (0 : Nat)) ((0 : Nat), (1065353216 : Nat), (0 : Nat)) ((0 : Nat), FloatKind.nearest FloatKind.f32 (IntKind.wrap IntKind.i64 ((3 : Int) + bAtV xs (0 : Int) (8 : Int))), (0 : Nat)) (1015021568 : Nat))))
 (cond (okS [((0 : Int), (0 : Int), (0 : Int), [(1065353216 : Nat)])] && (marB ((1015021568 : Nat), (1115684864 : Nat), (40 : Int)) && rayB (shRay ((0 : Nat), fneg FloatKind.f32 (FloatKind.nearest FloatKind.f32 (IntKind.wrap IntKind.i64 ((3 : Int) + bAtV xs (1 : Int) (5 : Int)))), (0 : Nat)) ((0 : Nat), (1065353216 : Nat), (0 : Nat)) ((0 : Nat), fsub FloatKind.f32 (fneg FloatKind.f32 (FloatKind.nearest FloatKind.f32 (IntKind.wrap IntKind.i64 ((3 : Int) + bAtV xs (1 : Int) (5 : Int))))) (FloatKind.nearest FloatKind.f32 (IntKind.wrap IntKind.i64 ((3 : Int) + bAtV xs (0 : Int) (8 : Int)))), (0 : Nat)) (1015021568 : Nat))))
 (cond (okS [((4 : Int), (0 : Int), (0 : Int), [(0 : Nat), (1065353216 : Nat), (0 : Nat), (0 : Nat)])] && (finN (1048576000 : Nat) && fgt FloatKind.f32 (1048576000 : Nat) (0 : Nat) && inR (IntKind.wrap IntKind.i64 ((1 : Int) + bAtV ys (0 : Int) (8 : Int))) (1 : Int) (8 : Int)))
 (cond (okS (exV (xs, 0, 0)) && (finN (fdiv FloatKind.f32 (FloatKind.nearest FloatKind.f32 (IntKind.wrap IntKind.i64 (1 + bAtV ys 1 8))) 1090519040) && fgt FloatKind.f32 (fdiv FloatKind.f32 (FloatKind.nearest FloatKind.f32 (IntKind.wrap IntKind.i64 (1 + bAtV ys 1 8))) 1090519040) 0 && inR (IntKind.wrap IntKind.i64 (1 + bAtV ys 2 8)) 1 8))
 (cond (Prod.fst (marV [((0 : Int), (0 : Int), (0 : Int), [(1065353216 : Nat)])] (shRay ((0 : Nat), fneg FloatKind.f32 (FloatKind.nearest FloatKind.f32 (IntKind.wrap IntKind.i64 ((3 : Int) + bAtV xs (1 : Int) (5 : Int)))), (0 : Nat)) ((0 : Nat), (1065353216 : Nat), (0 : Nat)) ((0 : Nat), FloatKind.nearest FloatKind.f32 (IntKind.wrap IntKind.i64 ((3 : Int) + bAtV xs (0 : Int) (8 : Int))), (0 : Nat)) (1015021568 : Nat)) ((1015021568 : Nat), lsV (1115684864 : Nat) (longV (Prod.snd (shRay ((0 : Nat), fneg FloatKind.f32 (FloatKind.nearest FloatKind.f32 (IntKind.wrap IntKind.i64 ((3 : Int) + bAtV xs (1 : Int) (5 : Int)))), (0 : Nat)) ((0 : Nat), (1065353216 : Nat), (0 : Nat)) ((0 : Nat), FloatKind.nearest FloatKind.f32 (IntKind.wrap IntKind.i64 ((3 : Int) + bAtV xs (0 : Int) (8 : Int))), (0 : Nat)) (1015021568 : Nat)))), (40 : Int))) == (1 : Int))
 (cond (!Prod.fst (marV [((0 : Int), (0 : Int), (0 : Int), [(1065353216 : Nat)])] (shRay ((0 : Nat), fneg FloatKind.f32 (FloatKind.nearest FloatKind.f32 (IntKind.wrap IntKind.i64 ((3 : Int) + bAtV xs (1 : Int) (5 : Int)))), (0 : Nat)) ((0 : Nat), (1065353216 : Nat), (0 : Nat)) ((0 : Nat), fsub FloatKind.f32 (fneg FloatKind.f32 (FloatKind.nearest FloatKind.f32 (IntKind.wrap IntKind.i64 ((3 : Int) + bAtV xs (1 : Int) (5 : Int))))) (FloatKind.nearest FloatKind.f32 (IntKind.wrap IntKind.i64 ((3 : Int) + bAtV xs (0 : Int) (8 : Int)))), (0 : Nat)) (1015021568 : Nat)) ((1015021568 : Nat), lsV (1115684864 : Nat) (longV (Prod.snd (shRay ((0 : Nat), fneg FloatKind.f32 (FloatKind.nearest FloatKind.f32 (IntKind.wrap IntKind.i64 ((3 : Int) + bAtV xs (1 : Int) (5 : Int)))), (0 : Nat)) ((0 : Nat), (1065353216 : Nat), (0 : Nat)) ((0 : Nat), fsub FloatKind.f32 (fneg FloatKind.f32 (FloatKind.nearest FloatKind.f32 (IntKind.wrap IntKind.i64 ((3 : Int) + bAtV xs (1 : Int) (5 : Int))))) (FloatKind.nearest FloatKind.f32 (IntKind.wrap IntKind.i64 ((3 : Int) + bAtV xs (0 : Int) (8 : Int)))), (0 : Nat)) (1015021568 : Nat)))), (40 : Int))) == (1 : Int))
 (cond (feq FloatKind.f32 (ambV [((4 : Int), (0 : Int), (0 : Int), [(0 : Nat), (1065353216 : Nat), (0 : Nat), (0 : Nat)])] (FloatKind.nearest FloatKind.f32 (IntKind.wrap IntKind.i64 ((3 : Int) + bAtV xs (0 : Int) (8 : Int))), (0 : Nat), (0 : Nat)) ((0 : Nat), (1065353216 : Nat), (0 : Nat)) (1048576000 : Nat) (IntKind.wrap IntKind.i64 ((1 : Int) + bAtV ys (0 : Int) (8 : Int)))) (1065353216 : Nat))
 (cond (fge FloatKind.f32 (ambV (exV (xs, 0, 0)) (drawnPV (ys, 0, 0)) (spUnitV (intsV ys 9)) (fdiv FloatKind.f32 (FloatKind.nearest FloatKind.f32 (IntKind.wrap IntKind.i64 (1 + bAtV ys 1 8))) 1090519040) (IntKind.wrap IntKind.i64 (1 + bAtV ys 2 8))) 0)
 (K (.bool (fle FloatKind.f32 (ambV (exV (xs, 0, 0)) (drawnPV (ys, 0, 0)) (spUnitV (intsV ys 9)) (fdiv FloatKind.f32 (FloatKind.nearest FloatKind.f32 (IntKind.wrap IntKind.i64 (1 + bAtV ys 1 8))) 1090519040) (IntKind.wrap IntKind.i64 (1 + bAtV ys 2 8))) 1065353216)) [])
 (K (.bool false) []))
 (K (.bool false) []))
 (K (.bool false) []))
 (K (.bool false) []))
 (False))
 (False))
 (False))
 (False)) := by kernel_rfl
noncomputable def s_laws_FnLights : Sm := semT [.cell tB, .cell tB] fun x => match x with | (xs, ys, _) => .bool true
theorem ok_laws_FnLights : FnOk Try.prog 9 s_laws_FnLights := fnOk_typed (fnOk_runC (C := c_laws_FnLights) rfl mixed (.cons ok_laws_b10Long (.cons ok_laws_b10At (.cons ok_laws_b10Ball (.cons ok_impl_InShadow (.cons ok_impl_AmbientAt (.cons ok_spec_B10Shape (.cons ok_spec_B10Point (.cons ok_spec_UnitOf (.cons ok_spec_B10Vector .nil))))))))) .nil .nil Try.func9 (by kernel_rfl)) fun (x : ((List Int) × (List Int) × Unit)) wf K h => by
  obtain ⟨xs, ys, ⟨⟩⟩ := x
  replace h : K (.bool true) [] := h
  rw [w_laws_FnLights xs ys K]
  have bx : bytes xs := bytes_of wf.1
  have bY : bytes ys := bytes_of wf.2.1
  have hS := ex_okS (s := (xs, 0, 0)) bx
  have r0 := bAt_range bx (i := 0) (n := 8) (by omega) (by omega)
  have r1 := bAt_range bx (i := 1) (n := 5) (by omega) (by omega)
  have s0 := bAt_range bY (i := 0) (n := 8) (by omega) (by omega)
  have s1 := bAt_range bY (i := 1) (n := 8) (by omega) (by omega)
  have s2 := bAt_range bY (i := 2) (n := 8) (by omega) (by omega)
  rw [i64_of (n := 3 + bAtV xs 1 5) (by omega) (by omega), i64_of (n := 3 + bAtV xs 0 8) (by omega) (by omega), i64_of (n := 1 + bAtV ys 0 8) (by omega) (by omega), i64_of (n := 1 + bAtV ys 1 8) (by omega) (by omega), i64_of (n := 1 + bAtV ys 2 8) (by omega) (by omega)]
  generalize exV (xs, 0, 0) = ns at *
  generalize bAtV xs 0 8 = i at *
  generalize bAtV xs 1 5 = j at *
  generalize bAtV ys 0 8 = c at *
  generalize bAtV ys 1 8 = d at *
  generalize bAtV ys 2 8 = e at *
  have t1 := all_rangeT (p := lb1) tab_l1 r0 r1
  have t2 := all_rangeT (p := lb2) tab_l2 r0 s0
  have t3 := all_range (p := lb3) tab_l3 s1
  obtain ⟨g1, g2⟩ := ambV_range ns (drawnPV (ys, 0, 0)) (spUnitV (intsV ys 9)) (fdiv .f32 (FloatKind.f32.nearest (1 + d)) 1090519040) (c := 1 + e) (by omega)
  have okb : okS lBall = true := by decide +kernel
  have okp : okS lPl = true := by decide +kernel
  have mb : marB (1015021568, 1115684864, 40) = true := by decide +kernel
  have fb : (finN 1048576000 && fgt .f32 1048576000 0) = true := by decide +kernel
  have n1 : inR (1 + c) 1 8 = true := inR_iff.2 (by omega)
  have n2 : inR (1 + e) 1 8 = true := inR_iff.2 (by omega)
  unfold lb1 at t1
  simp only [Bool.and_eq_true] at t1
  obtain ⟨⟨u1, u2⟩, u3, u4⟩ := t1
  unfold lb3 at t3
  refine cond_both (fun _ => h) (fun _ => ?_)
  have G1 : (okS lBall && (marB (1015021568, 1115684864, 40) && rayB (shRay (lP j) lUp (lL1 i) 1015021568))) = true := by rw [okb, mb, u1]; rfl
  have G2 : (okS lBall && (marB (1015021568, 1115684864, 40) && rayB (shRay (lP j) lUp (lL2 i j) 1015021568))) = true := by rw [okb, mb, u2]; rfl
  have G3 : (okS lPl && (finN 1048576000 && fgt .f32 1048576000 0 && inR (1 + c) 1 8)) = true := by rw [okp, fb, n1]; rfl
  have G4 : (okS ns && (finN (fdiv .f32 (FloatKind.f32.nearest (1 + d)) 1090519040) && fgt .f32 (fdiv .f32 (FloatKind.f32.nearest (1 + d)) 1090519040) 0 && inR (1 + e) 1 8)) = true := by rw [hS, t3, n2]; rfl
  refine cond_intro G1 (cond_intro G2 (cond_intro G3 (cond_intro G4 (cond_intro u3 (cond_intro u4 (cond_intro t2 (cond_intro g1 ?_)))))))
  rw [g2]
  exact h

end Go.Proofs.Ytfhpmcdbfebflaa

