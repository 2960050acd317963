/- Merged texts: Sine Dist Dis2 Dis3 Ray ShT ShX B10 Part Kept Jn R8 PrtP FlT Bnd JnD FlV Lin LinP LinL. -/
import Derived.Test.YtfhpmcdbfebflaaM4
/- Roots, lengths, sines: their walks, beside shapes. -/
set_option linter.unusedVariables false
set_option linter.unusedSimpArgs false
set_option maxRecDepth 100000
namespace Go.Proofs.Ytfhpmcdbfebflaa
open Go.Ev Go.Ev.Fl

abbrev s_math_Float64bits : Sm := sF64bits
theorem ok_math_Float64bits : FnOk Try.prog 176 (sF64bits) := ok_F64bits Try.func176 (by kernel_rfl) (by kernel_rfl) (by kernel_rfl) (by kernel_rfl)
abbrev s_math_Float64frombits : Sm := sF64from
theorem ok_math_Float64frombits : FnOk Try.prog 175 (sF64from) := ok_F64from Try.func175 (by kernel_rfl) (by kernel_rfl) (by kernel_rfl) (by kernel_rfl)
abbrev s_math_archTrunc : Sm := sWhole .zero
theorem ok_math_archTrunc : FnOk Try.prog 177 (sWhole .zero) := ok_whole "math.archTrunc" .zero Try.func177 (by kernel_rfl) (by kernel_rfl) (by kernel_rfl) (by kernel_rfl)
abbrev s_math_RoundToEven : Sm := sEven
theorem ok_math_RoundToEven : FnOk Try.prog 179 (sEven) := ok_even "math.RoundToEven" Try.func179 (by kernel_rfl) (by kernel_rfl) (by kernel_rfl) (by kernel_rfl)

theorem cond_yes {c : Bool} {P Q : Prop} (hc : c = true) (h : P) : cond c P Q := by rw [hc]; exact h
theorem cond_of {c : Bool} {P Q : Prop} (hc : c = false) (h : Q) : cond c P Q := by rw [hc]; exact h

noncomputable def c_math_NaN : Ctx := mkC Try.prog tyT [(175, s_math_Float64frombits)] [] [] 2 (fun _ => none) 0
theorem w_math_NaN (K : V → Heap → Prop) : wpFn c_math_NaN Try.f160 (encAs [] ()) [] K =
 K (.float .f64 (canon FloatKind.f64 9221120237041090561)) [] := by kernel_rfl
noncomputable def s_math_NaN : Sm := semT [] fun x => match x with | _ => .float .f64 9221120237041090560
theorem ok_math_NaN : FnOk Try.prog 160 s_math_NaN := fnOk_typed (fnOk_runC (C := c_math_NaN) rfl mixed (.cons ok_math_Float64frombits .nil) .nil .nil Try.func160 (by kernel_rfl)) fun (x : Unit) wf K h => by
  obtain ⟨⟩ := x
  replace h : K (.float .f64 9221120237041090560) [] := h
  rw [w_math_NaN  K]
  rw [show canon FloatKind.f64 9221120237041090561 = 9221120237041090560 by decide +kernel]
  exact h

theorem abs_bits {x : Nat} (h : x < 18446744073709551616) : Int.toNat (IntKind.wrap IntKind.u64 (↑(BitVec.toNat (BitVec.ofInt 64 (↑x : Int) &&& ~~~BitVec.ofInt 64 9223372036854775808)) : Int)) = x % 9223372036854775808 := by
  have e : BitVec.toNat (BitVec.ofInt 64 (↑x : Int) &&& ~~~BitVec.ofInt 64 9223372036854775808) = x % 9223372036854775808 := by
    rw [BitVec.toNat_and, BitVec.ofInt_natCast, BitVec.toNat_ofNat, Nat.mod_eq_of_lt (show x < 2 ^ 64 from h)]
    exact Nat.and_two_pow_sub_one_eq_mod x 63
  rw [e, wrap_of (by have : IntKind.u64.min = 0 := rfl; omega) (by have : IntKind.u64.max = 18446744073709551615 := rfl; omega)]
  omega
def absW (x : Nat) : Nat := abs64 x
noncomputable def c_math_Abs : Ctx := mkC Try.prog tyT [(176, s_math_Float64bits), (175, s_math_Float64frombits)] [] [] 7 (fun _ => none) 0
theorem w_math_Abs (x : Nat) (K : V → Heap → Prop) : wpFn c_math_Abs Try.f161 (encAs [.cell (.float .f64)] (x, ())) [] K =
 cond (nan FloatKind.f64 x)
 (False)
 (K (.float .f64 (canon FloatKind.f64 (Int.toNat (IntKind.wrap IntKind.u64 (↑(BitVec.toNat (BitVec.ofInt 64 (↑x : Int) &&& ~~~BitVec.ofInt 64 9223372036854775808)) : Int))))) []) := by kernel_rfl
noncomputable def s_math_Abs : Sm := semG [.cell (.float .f64)] (fun x => match x with | (x, _) => !nan .f64 x) fun x => match x with | (x, _) => .float .f64 (absW x)
theorem ok_math_Abs : FnOk Try.prog 161 s_math_Abs := fnOk_typedG (fnOk_runC (C := c_math_Abs) rfl mixed (.cons ok_math_Float64bits (.cons ok_math_Float64frombits .nil)) .nil .nil Try.func161 (by kernel_rfl)) fun (x : ((Nat) × Unit)) wf hg K h => by
  obtain ⟨x, ⟨⟩⟩ := x
  replace hg : (!nan .f64 x) = true := hg
  replace h : K (.float .f64 (absW x)) [] := h
  rw [w_math_Abs x K]
  rw [Bool.not_eq_true'] at hg
  rw [hg]
  have hl : x < 18446744073709551616 := wf.1.1
  rw [abs_bits hl]
  have hn : nan .f64 (x % 9223372036854775808) = false := by
    rw [nan_false] at hg ⊢
    show x % 9223372036854775808 % 9223372036854775808 ≤ _
    rw [Nat.mod_mod]
    exact hg
  rw [canon_not hn]
  exact h

noncomputable def c_math_Trunc : Ctx := mkC Try.prog tyT [(177, s_math_archTrunc)] [] [] 7 (fun _ => none) 0
theorem w_math_Trunc (x : Nat) (K : V → Heap → Prop) : wpFn c_math_Trunc Try.f162 (encAs [.cell (.float .f64)] (x, ())) [] K =
 cond (nan FloatKind.f64 x)
 (False)
 (K (.float .f64 (fwhole Ieee.Toward.zero x)) []) := by kernel_rfl
noncomputable def s_math_Trunc : Sm := semG [.cell (.float .f64)] (fun x => match x with | (x, _) => !nan .f64 x) fun x => match x with | (x, _) => .float .f64 (fwhole .zero x)
theorem ok_math_Trunc : FnOk Try.prog 162 s_math_Trunc := fnOk_typedG (fnOk_runC (C := c_math_Trunc) rfl mixed (.cons ok_math_archTrunc .nil) .nil .nil Try.func162 (by kernel_rfl)) fun (x : ((Nat) × Unit)) wf hg K h => by
  obtain ⟨x, ⟨⟩⟩ := x
  replace hg : (!nan .f64 x) = true := hg
  replace h : K (.float .f64 (fwhole .zero x)) [] := h
  rw [w_math_Trunc x K]
  cases e : nan .f64 x <;> rw [e] at hg
  · exact h
  · cases hg

theorem finN_fin {x : Nat} (hl : x < 2 * signOf .f32) : finN x = fin .f32 x := sub_self hl
def sineF (x : Nat) : Nat := sineN x
def sineOk (x : Nat) : Bool := sinOk x
noncomputable def a_impl_SineTurns : Nat → Option Ann := fun n => bif Nat.beq n 19 then some ⟨[5,6,7,8,9],0,false⟩ else none
noncomputable def c_impl_SineTurns : Ctx := mkC Try.prog tyT [(78, s_impl_IsFinite), (160, s_math_NaN), (161, s_math_Abs), (162, s_math_Trunc)] [] [] 72 a_impl_SineTurns 0
noncomputable def fr_impl_SineTurns_19 (f z u p : Nat) (b' : Bool) (i : Int) : Fr := [(5, .bool b'), (6, .float .f64 z), (7, .float .f64 u), (8, .float .f64 p), (9, .int .i64 i)]
theorem r_impl_SineTurns_19 (f z u p : Nat) (b' : Bool) (i : Int) (Kn : Fr → Heap → Prop) (K : V → Heap → Prop) : round c_impl_SineTurns ⟨[5,6,7,8,9],0,false⟩ (lb c_impl_SineTurns 19 Try.f136) (fr_impl_SineTurns_19 f z u p b' i) [] Kn (lk c_impl_SineTurns 19 Try.f136 [] K) =
 cond (decide (i ≥ 1))
 (Kn [(5, (.bool (b'))), (6, (.float .f64 (z))), (7, (.float .f64 (u))), (8, (.float .f64 (fsub FloatKind.f64 4607182418800017408 (fdiv FloatKind.f64 (fmul FloatKind.f64 u p) (FloatKind.nearest FloatKind.f64 (IntKind.wrap IntKind.i64 (IntKind.wrap IntKind.i64 (2 * i) * IntKind.wrap IntKind.i64 (IntKind.wrap IntKind.i64 (2 * i) + 1)))))))), (9, (.int .i64 (IntKind.wrap IntKind.i64 (i - 1))))] [])
 (cond (b')
 (cond (ovf (fneg FloatKind.f64 (fmul FloatKind.f64 z p)))
 (K .undef [])
 (K (.float .f32 (narrow (fneg FloatKind.f64 (fmul FloatKind.f64 z p)))) []))
 (cond (ovf (fmul FloatKind.f64 z p))
 (K .undef [])
 (K (.float .f32 (narrow (fmul FloatKind.f64 z p))) []))) := by kernel_rfl
theorem w_impl_SineTurns (x : Nat) (K : V → Heap → Prop) : wpFn c_impl_SineTurns Try.f136 (encAs [.cell tF] (x, ())) [] K =
 cond (!finN x)
 (cond (ovf 9221120237041090560)
 (K .undef [])
 (K (.float .f32 (narrow 9221120237041090560)) []))
 (cond (!nan FloatKind.f64 (widen x))
 (cond (fge FloatKind.f64 (absW (widen x)) 4841369599423283200)
 (K (.float .f32 0) [])
 (cond (!nan FloatKind.f64 (widen x))
 (cond (!feq FloatKind.f64 (fwhole Ieee.Toward.zero (widen x)) 0)
 (cond (flt FloatKind.f64 (fsub FloatKind.f64 (widen x) (fwhole Ieee.Toward.zero (widen x))) 0)
 (cond (fge FloatKind.f64 (fadd FloatKind.f64 (fsub FloatKind.f64 (widen x) (fwhole Ieee.Toward.zero (widen x))) 4607182418800017408) 4602678819172646912)
 (cond (fgt FloatKind.f64 (fsub FloatKind.f64 (fadd FloatKind.f64 (fsub FloatKind.f64 (widen x) (fwhole Ieee.Toward.zero (widen x))) 4607182418800017408) 4602678819172646912) 4598175219545276416)
 (LoopE c_impl_SineTurns ⟨[5, 6, 7, 8, 9], 0, false⟩ (lb c_impl_SineTurns 19 Try.f136) [(5, (.bool (fge FloatKind.f64 (fadd FloatKind.f64 (fsub FloatKind.f64 (widen x) (fwhole Ieee.Toward.zero (widen x))) 4607182418800017408) 4602678819172646912))), (6, (.float .f64 (fmul FloatKind.f64 (fsub FloatKind.f64 4602678819172646912 (fsub FloatKind.f64 (fadd FloatKind.f64 (fsub FloatKind.f64 (widen x) (fwhole Ieee.Toward.zero (widen x))) 4607182418800017408) 4602678819172646912)) 4618760256179416344))), (7, (.float .f64 (fmul FloatKind.f64 (fmul FloatKind.f64 (fsub FloatKind.f64 4602678819172646912 (fsub FloatKind.f64 (fadd FloatKind.f64 (fsub FloatKind.f64 (widen x) (fwhole Ieee.Toward.zero (widen x))) 4607182418800017408) 4602678819172646912)) 4618760256179416344) (fmul FloatKind.f64 (fsub FloatKind.f64 4602678819172646912 (fsub FloatKind.f64 (fadd FloatKind.f64 (fsub FloatKind.f64 (widen x) (fwhole Ieee.Toward.zero (widen x))) 4607182418800017408) 4602678819172646912)) 4618760256179416344)))), (8, (.float .f64 4607182418800017408)), (9, (.int .i64 8))] [] (lk c_impl_SineTurns 19 Try.f136 [] K))
 (LoopE c_impl_SineTurns ⟨[5, 6, 7, 8, 9], 0, false⟩ (lb c_impl_SineTurns 19 Try.f136) [(5, (.bool (fge FloatKind.f64 (fadd FloatKind.f64 (fsub FloatKind.f64 (widen x) (fwhole Ieee.Toward.zero (widen x))) 4607182418800017408) 4602678819172646912))), (6, (.float .f64 (fmul FloatKind.f64 (fsub FloatKind.f64 (fadd FloatKind.f64 (fsub FloatKind.f64 (widen x) (fwhole Ieee.Toward.zero (widen x))) 4607182418800017408) 4602678819172646912) 4618760256179416344))), (7, (.float .f64 (fmul FloatKind.f64 (fmul FloatKind.f64 (fsub FloatKind.f64 (fadd FloatKind.f64 (fsub FloatKind.f64 (widen x) (fwhole Ieee.Toward.zero (widen x))) 4607182418800017408) 4602678819172646912) 4618760256179416344) (fmul FloatKind.f64 (fsub FloatKind.f64 (fadd FloatKind.f64 (fsub FloatKind.f64 (widen x) (fwhole Ieee.Toward.zero (widen x))) 4607182418800017408) 4602678819172646912) 4618760256179416344)))), (8, (.float .f64 4607182418800017408)), (9, (.int .i64 8))] [] (lk c_impl_SineTurns 19 Try.f136 [] K)))
 (cond (fgt FloatKind.f64 (fadd FloatKind.f64 (fsub FloatKind.f64 (widen x) (fwhole Ieee.Toward.zero (widen x))) 4607182418800017408) 4598175219545276416)
 (LoopE c_impl_SineTurns ⟨[5, 6, 7, 8, 9], 0, false⟩ (lb c_impl_SineTurns 19 Try.f136) [(5, (.bool (fge FloatKind.f64 (fadd FloatKind.f64 (fsub FloatKind.f64 (widen x) (fwhole Ieee.Toward.zero (widen x))) 4607182418800017408) 4602678819172646912))), (6, (.float .f64 (fmul FloatKind.f64 (fsub FloatKind.f64 4602678819172646912 (fadd FloatKind.f64 (fsub FloatKind.f64 (widen x) (fwhole Ieee.Toward.zero (widen x))) 4607182418800017408)) 4618760256179416344))), (7, (.float .f64 (fmul FloatKind.f64 (fmul FloatKind.f64 (fsub FloatKind.f64 4602678819172646912 (fadd FloatKind.f64 (fsub FloatKind.f64 (widen x) (fwhole Ieee.Toward.zero (widen x))) 4607182418800017408)) 4618760256179416344) (fmul FloatKind.f64 (fsub FloatKind.f64 4602678819172646912 (fadd FloatKind.f64 (fsub FloatKind.f64 (widen x) (fwhole Ieee.Toward.zero (widen x))) 4607182418800017408)) 4618760256179416344)))), (8, (.float .f64 4607182418800017408)), (9, (.int .i64 8))] [] (lk c_impl_SineTurns 19 Try.f136 [] K))
 (LoopE c_impl_SineTurns ⟨[5, 6, 7, 8, 9], 0, false⟩ (lb c_impl_SineTurns 19 Try.f136) [(5, (.bool (fge FloatKind.f64 (fadd FloatKind.f64 (fsub FloatKind.f64 (widen x) (fwhole Ieee.Toward.zero (widen x))) 4607182418800017408) 4602678819172646912))), (6, (.float .f64 (fmul FloatKind.f64 (fadd FloatKind.f64 (fsub FloatKind.f64 (widen x) (fwhole Ieee.Toward.zero (widen x))) 4607182418800017408) 4618760256179416344))), (7, (.float .f64 (fmul FloatKind.f64 (fmul FloatKind.f64 (fadd FloatKind.f64 (fsub FloatKind.f64 (widen x) (fwhole Ieee.Toward.zero (widen x))) 4607182418800017408) 4618760256179416344) (fmul FloatKind.f64 (fadd FloatKind.f64 (fsub FloatKind.f64 (widen x) (fwhole Ieee.Toward.zero (widen x))) 4607182418800017408) 4618760256179416344)))), (8, (.float .f64 4607182418800017408)), (9, (.int .i64 8))] [] (lk c_impl_SineTurns 19 Try.f136 [] K))))
 (cond (fge FloatKind.f64 (fsub FloatKind.f64 (widen x) (fwhole Ieee.Toward.zero (widen x))) 4602678819172646912)
 (cond (fgt FloatKind.f64 (fsub FloatKind.f64 (fsub FloatKind.f64 (widen x) (fwhole Ieee.Toward.zero (widen x))) 4602678819172646912) 4598175219545276416)
 (LoopE c_impl_SineTurns ⟨[5, 6, 7, 8, 9], 0, false⟩ (lb c_impl_SineTurns 19 Try.f136) [(5, (.bool (fge FloatKind.f64 (fsub FloatKind.f64 (widen x) (fwhole Ieee.Toward.zero (widen x))) 4602678819172646912))), (6, (.float .f64 (fmul FloatKind.f64 (fsub FloatKind.f64 4602678819172646912 (fsub FloatKind.f64 (fsub FloatKind.f64 (widen x) (fwhole Ieee.Toward.zero (widen x))) 4602678819172646912)) 4618760256179416344))), (7, (.float .f64 (fmul FloatKind.f64 (fmul FloatKind.f64 (fsub FloatKind.f64 4602678819172646912 (fsub FloatKind.f64 (fsub FloatKind.f64 (widen x) (fwhole Ieee.Toward.zero (widen x))) 4602678819172646912)) 4618760256179416344) (fmul FloatKind.f64 (fsub FloatKind.f64 4602678819172646912 (fsub FloatKind.f64 (fsub FloatKind.f64 (widen x) (fwhole Ieee.Toward.zero (widen x))) 4602678819172646912)) 4618760256179416344)))), (8, (.float .f64 4607182418800017408)), (9, (.int .i64 8))] [] (lk c_impl_SineTurns 19 Try.f136 [] K))
 (LoopE c_impl_SineTurns ⟨[5, 6, 7, 8, 9], 0, false⟩ (lb c_impl_SineTurns 19 Try.f136) [(5, (.bool (fge FloatKind.f64 (fsub FloatKind.f64 (widen x) (fwhole Ieee.Toward.zero (widen x))) 4602678819172646912))), (6, (.float .f64 (fmul FloatKind.f64 (fsub FloatKind.f64 (fsub FloatKind.f64 (widen x) (fwhole Ieee.Toward.zero (widen x))) 4602678819172646912) 4618760256179416344))), (7, (.float .f64 (fmul FloatKind.f64 (fmul FloatKind.f64 (fsub FloatKind.f64 (fsub FloatKind.f64 (widen x) (fwhole Ieee.Toward.zero (widen x))) 4602678819172646912) 4618760256179416344) (fmul FloatKind.f64 (fsub FloatKind.f64 (fsub FloatKind.f64 (widen x) (fwhole Ieee.Toward.zero (widen x))) 4602678819172646912) 4618760256179416344)))), (8, (.float .f64 4607182418800017408)), (9, (.int .i64 8))] [] (lk c_impl_SineTurns 19 Try.f136 [] K)))
 (cond (fgt FloatKind.f64 (fsub FloatKind.f64 (widen x) (fwhole Ieee.Toward.zero (widen x))) 4598175219545276416)
 (LoopE c_impl_SineTurns ⟨[5, 6, 7, 8, 9], 0, false⟩ (lb c_impl_SineTurns 19 Try.f136) [(5, (.bool (fge FloatKind.f64 (fsub FloatKind.f64 (widen x) (fwhole Ieee.Toward.zero (widen x))) 4602678819172646912))), (6, (.float .f64 (fmul FloatKind.f64 (fsub FloatKind.f64 4602678819172646912 (fsub FloatKind.f64 (widen x) (fwhole Ieee.Toward.zero (widen x)))) 4618760256179416344))), (7, (.float .f64 (fmul FloatKind.f64 (fmul FloatKind.f64 (fsub FloatKind.f64 4602678819172646912 (fsub FloatKind.f64 (widen x) (fwhole Ieee.Toward.zero (widen x)))) 4618760256179416344) (fmul FloatKind.f64 (fsub FloatKind.f64 4602678819172646912 (fsub FloatKind.f64 (widen x) (fwhole Ieee.Toward.zero (widen x)))) 4618760256179416344)))), (8, (.float .f64 4607182418800017408)), (9, (.int .i64 8))] [] (lk c_impl_SineTurns 19 Try.f136 [] K))
 (LoopE c_impl_SineTurns ⟨[5, 6, 7, 8, 9], 0, false⟩ (lb c_impl_SineTurns 19 Try.f136) [(5, (.bool (fge FloatKind.f64 (fsub FloatKind.f64 (widen x) (fwhole Ieee.Toward.zero (widen x))) 4602678819172646912))), (6, (.float .f64 (fmul FloatKind.f64 (fsub FloatKind.f64 (widen x) (fwhole Ieee.Toward.zero (widen x))) 4618760256179416344))), (7, (.float .f64 (fmul FloatKind.f64 (fmul FloatKind.f64 (fsub FloatKind.f64 (widen x) (fwhole Ieee.Toward.zero (widen x))) 4618760256179416344) (fmul FloatKind.f64 (fsub FloatKind.f64 (widen x) (fwhole Ieee.Toward.zero (widen x))) 4618760256179416344)))), (8, (.float .f64 4607182418800017408)), (9, (.int .i64 8))] [] (lk c_impl_SineTurns 19 Try.f136 [] K)))))
 (cond (flt FloatKind.f64 (widen x) 0)
 (cond (fge FloatKind.f64 (fadd FloatKind.f64 (widen x) 4607182418800017408) 4602678819172646912)
 (cond (fgt FloatKind.f64 (fsub FloatKind.f64 (fadd FloatKind.f64 (widen x) 4607182418800017408) 4602678819172646912) 4598175219545276416)
 (LoopE c_impl_SineTurns ⟨[5, 6, 7, 8, 9], 0, false⟩ (lb c_impl_SineTurns 19 Try.f136) [(5, (.bool (fge FloatKind.f64 (fadd FloatKind.f64 (widen x) 4607182418800017408) 4602678819172646912))), (6, (.float .f64 (fmul FloatKind.f64 (fsub FloatKind.f64 4602678819172646912 (fsub FloatKind.f64 (fadd FloatKind.f64 (widen x) 4607182418800017408) 4602678819172646912)) 4618760256179416344))), (7, (.float .f64 (fmul FloatKind.f64 (fmul FloatKind.f64 (fsub FloatKind.f64 4602678819172646912 (fsub FloatKind.f64 (fadd FloatKind.f64 (widen x) 4607182418800017408) 4602678819172646912)) 4618760256179416344) (fmul FloatKind.f64 (fsub FloatKind.f64 4602678819172646912 (fsub FloatKind.f64 (fadd FloatKind.f64 (widen x) 4607182418800017408) 4602678819172646912)) 4618760256179416344)))), (8, (.float .f64 4607182418800017408)), (9, (.int .i64 8))] [] (lk c_impl_SineTurns 19 Try.f136 [] K))
 (LoopE c_impl_SineTurns ⟨[5, 6, 7, 8, 9], 0, false⟩ (lb c_impl_SineTurns 19 Try.f136) [(5, (.bool (fge FloatKind.f64 (fadd FloatKind.f64 (widen x) 4607182418800017408) 4602678819172646912))), (6, (.float .f64 (fmul FloatKind.f64 (fsub FloatKind.f64 (fadd FloatKind.f64 (widen x) 4607182418800017408) 4602678819172646912) 4618760256179416344))), (7, (.float .f64 (fmul FloatKind.f64 (fmul FloatKind.f64 (fsub FloatKind.f64 (fadd FloatKind.f64 (widen x) 4607182418800017408) 4602678819172646912) 4618760256179416344) (fmul FloatKind.f64 (fsub FloatKind.f64 (fadd FloatKind.f64 (widen x) 4607182418800017408) 4602678819172646912) 4618760256179416344)))), (8, (.float .f64 4607182418800017408)), (9, (.int .i64 8))] [] (lk c_impl_SineTurns 19 Try.f136 [] K)))
 (cond (fgt FloatKind.f64 (fadd FloatKind.f64 (widen x) 4607182418800017408) 4598175219545276416)
 (LoopE c_impl_SineTurns ⟨[5, 6, 7, 8, 9], 0, false⟩ (lb c_impl_SineTurns 19 Try.f136) [(5, (.bool (fge FloatKind.f64 (fadd FloatKind.f64 (widen x) 4607182418800017408) 4602678819172646912))), (6, (.float .f64 (fmul FloatKind.f64 (fsub FloatKind.f64 4602678819172646912 (fadd FloatKind.f64 (widen x) 4607182418800017408)) 4618760256179416344))), (7, (.float .f64 (fmul FloatKind.f64 (fmul FloatKind.f64 (fsub FloatKind.f64 4602678819172646912 (fadd FloatKind.f64 (widen x) 4607182418800017408)) 4618760256179416344) (fmul FloatKind.f64 (fsub FloatKind.f64 4602678819172646912 (fadd FloatKind.f64 (widen x) 4607182418800017408)) 4618760256179416344)))), (8, (.float .f64 4607182418800017408)), (9, (.int .i64 8))] [] (lk c_impl_SineTurns 19 Try.f136 [] K))
 (LoopE c_impl_SineTurns ⟨[5, 6, 7, 8, 9], 0, false⟩ (lb c_impl_SineTurns 19 Try.f136) [(5, (.bool (fge FloatKind.f64 (fadd FloatKind.f64 (widen x) 4607182418800017408) 4602678819172646912))), (6, (.float .f64 (fmul FloatKind.f64 (fadd FloatKind.f64 (widen x) 4607182418800017408) 4618760256179416344))), (7, (.float .f64 (fmul FloatKind.f64 (fmul FloatKind.f64 (fadd FloatKind.f64 (widen x) 4607182418800017408) 4618760256179416344) (fmul FloatKind.f64 (fadd FloatKind.f64 (widen x) 4607182418800017408) 4618760256179416344)))), (8, (.float .f64 4607182418800017408)), (9, (.int .i64 8))] [] (lk c_impl_SineTurns 19 Try.f136 [] K))))
 (cond (fge FloatKind.f64 (widen x) 4602678819172646912)
 (cond (fgt FloatKind.f64 (fsub FloatKind.f64 (widen x) 4602678819172646912) 4598175219545276416)
 (LoopE c_impl_SineTurns ⟨[5, 6, 7, 8, 9], 0, false⟩ (lb c_impl_SineTurns 19 Try.f136) [(5, (.bool (fge FloatKind.f64 (widen x) 4602678819172646912))), (6, (.float .f64 (fmul FloatKind.f64 (fsub FloatKind.f64 4602678819172646912 (fsub FloatKind.f64 (widen x) 4602678819172646912)) 4618760256179416344))), (7, (.float .f64 (fmul FloatKind.f64 (fmul FloatKind.f64 (fsub FloatKind.f64 4602678819172646912 (fsub FloatKind.f64 (widen x) 4602678819172646912)) 4618760256179416344) (fmul FloatKind.f64 (fsub FloatKind.f64 4602678819172646912 (fsub FloatKind.f64 (widen x) 4602678819172646912)) 4618760256179416344)))), (8, (.float .f64 4607182418800017408)), (9, (.int .i64 8))] [] (lk c_impl_SineTurns 19 Try.f136 [] K))
 (LoopE c_impl_SineTurns ⟨[5, 6, 7, 8, 9], 0, false⟩ (lb c_impl_SineTurns 19 Try.f136) [(5, (.bool (fge FloatKind.f64 (widen x) 4602678819172646912))), (6, (.float .f64 (fmul FloatKind.f64 (fsub FloatKind.f64 (widen x) 4602678819172646912) 4618760256179416344))), (7, (.float .f64 (fmul FloatKind.f64 (fmul FloatKind.f64 (fsub FloatKind.f64 (widen x) 4602678819172646912) 4618760256179416344) (fmul FloatKind.f64 (fsub FloatKind.f64 (widen x) 4602678819172646912) 4618760256179416344)))), (8, (.float .f64 4607182418800017408)), (9, (.int .i64 8))] [] (lk c_impl_SineTurns 19 Try.f136 [] K)))
 (cond (fgt FloatKind.f64 (widen x) 4598175219545276416)
 (LoopE c_impl_SineTurns ⟨[5, 6, 7, 8, 9], 0, false⟩ (lb c_impl_SineTurns 19 Try.f136) [(5, (.bool (fge FloatKind.f64 (widen x) 4602678819172646912))), (6, (.float .f64 (fmul FloatKind.f64 (fsub FloatKind.f64 4602678819172646912 (widen x)) 4618760256179416344))), (7, (.float .f64 (fmul FloatKind.f64 (fmul FloatKind.f64 (fsub FloatKind.f64 4602678819172646912 (widen x)) 4618760256179416344) (fmul FloatKind.f64 (fsub FloatKind.f64 4602678819172646912 (widen x)) 4618760256179416344)))), (8, (.float .f64 4607182418800017408)), (9, (.int .i64 8))] [] (lk c_impl_SineTurns 19 Try.f136 [] K))
 (LoopE c_impl_SineTurns ⟨[5, 6, 7, 8, 9], 0, false⟩ (lb c_impl_SineTurns 19 Try.f136) [(5, (.bool (fge FloatKind.f64 (widen x) 4602678819172646912))), (6, (.float .f64 (fmul FloatKind.f64 (widen x) 4618760256179416344))), (7, (.float .f64 (fmul FloatKind.f64 (fmul FloatKind.f64 (widen x) 4618760256179416344) (fmul FloatKind.f64 (widen x) 4618760256179416344)))), (8, (.float .f64 4607182418800017408)), (9, (.int .i64 8))] [] (lk c_impl_SineTurns 19 Try.f136 [] K))))))
 (False)))
 (False)) := by kernel_rfl
noncomputable def s_impl_SineTurns : Sm := semG [.cell tF] (fun x => match x with | (x, _) => sineOk x) fun x => match x with | (x, _) => .float .f32 (sineF x)
theorem ok_impl_SineTurns : FnOk Try.prog 136 s_impl_SineTurns := fnOk_typedG (fnOk_runC (C := c_impl_SineTurns) rfl mixed (.cons ok_impl_IsFinite (.cons ok_math_NaN (.cons ok_math_Abs (.cons ok_math_Trunc .nil)))) .nil .nil Try.func136 (by kernel_rfl)) fun (x : ((Nat) × Unit)) wf hg K h => by
  obtain ⟨x, ⟨⟩⟩ := x
  replace hg : (sineOk x) = true := hg
  replace h : K (.float .f32 (sineF x)) [] := h
  rw [w_impl_SineTurns x K]
  obtain ⟨g1, g2, g3, g4, hov⟩ := sinOk_trunc hg wf.1.1
  have g3 : fge .f64 (absW (widen x)) 4841369599423283200 = false := g3
  have g4 : finN x = true := by rw [finN_fin wf.1.1]; exact g4
  simp only [g1, g2, g3, g4, Bool.not_true, Bool.not_false, cond_true, cond_false]
  replace h : K (.float .f32 (narrow (sine64 x))) [] := h
  have loop : ∀ (w : Nat) (tb : Bool), (sine64 x = bif tb then fneg .f64 (sinO w) else sinO w) → LoopE c_impl_SineTurns ⟨[5, 6, 7, 8, 9], 0, false⟩ (lb c_impl_SineTurns 19 Try.f136) (fr_impl_SineTurns_19 0 (fmul .f64 w 4618760256179416344) (fmul .f64 (fmul .f64 w 4618760256179416344) (fmul .f64 w 4618760256179416344)) 4607182418800017408 tb 8) [] (lk c_impl_SineTurns 19 Try.f136 [] K) := by
    intro w tb hs
    rw [hs] at h hov
    generalize hz : fmul .f64 w 4618760256179416344 = z
    refine loop_run (σ := Nat) (fun j => fr_impl_SineTurns_19 0 z (fmul .f64 z z) (sinP (fmul .f64 z z) j) tb (8 - (j : Int))) (fun _ => []) (fun j => j ≤ 8) (fun j => 8 - j) ?_ 0 (Nat.zero_le _)
    intro j hj Kn hk
    rw [r_impl_SineTurns_19 0 z (fmul .f64 z z) (sinP (fmul .f64 z z) j) tb (8 - (j : Int)) Kn K]
    by_cases hlt : j < 8
    · have b1 : 2 * (8 - (j : Int)) * (2 * (8 - (j : Int)) + 1) ≤ 16 * 17 := Int.mul_le_mul (by omega) (by omega) (by omega) (by omega)
      have b2 : 0 ≤ 2 * (8 - (j : Int)) * (2 * (8 - (j : Int)) + 1) := Int.mul_nonneg (by omega) (by omega)
      rw [d_t (show (8 : Int) - (j : Int) ≥ 1 by omega), i64_of (n := 2 * (8 - (j : Int))) (by omega) (by omega), i64_of (n := 2 * (8 - (j : Int)) + 1) (by omega) (by omega), i64_of (n := 2 * (8 - (j : Int)) * (2 * (8 - (j : Int)) + 1)) (by omega) (by omega), i64_of (n := 8 - (j : Int) - 1) (by omega) (by omega)]
      have := hk (j + 1) hlt (by omega)
      rw [show (8 : Int) - ((j + 1 : Nat) : Int) = 8 - (j : Int) - 1 by omega] at this
      exact this
    · have : j = 8 := by omega
      subst this
      rw [d_f (show ¬ (8 : Int) - ((8 : Nat) : Int) ≥ 1 by decide)]
      subst hz
      cases tb <;> simp only [cond_true, cond_false] at hov h ⊢ <;> exact cond_of hov h
  cases c1 : flt .f64 (widen x) 0
  · cases c2 : fge .f64 (widen x) 4602678819172646912
    · cases c3 : fgt .f64 (widen x) 4598175219545276416 <;> exact loop _ _ (by unfold sine64; simp only [c1, c2, c3, cond_true, cond_false])
    · cases c3 : fgt .f64 (fsub .f64 (widen x) 4602678819172646912) 4598175219545276416 <;> exact loop _ _ (by unfold sine64; simp only [c1, c2, c3, cond_true, cond_false])
  · cases c2 : fge .f64 (fadd .f64 (widen x) 4607182418800017408) 4602678819172646912
    · cases c3 : fgt .f64 (fadd .f64 (widen x) 4607182418800017408) 4598175219545276416 <;> exact loop _ _ (by unfold sine64; simp only [c1, c2, c3, cond_true, cond_false])
    · cases c3 : fgt .f64 (fsub .f64 (fadd .f64 (widen x) 4607182418800017408) 4602678819172646912) 4598175219545276416 <;> exact loop _ _ (by unfold sine64; simp only [c1, c2, c3, cond_true, cond_false])

def rintV (x : Nat) : Nat := narrow (fwhole .even (widen x))
noncomputable def c_impl_nearest : Ctx := mkC Try.prog tyT [(179, s_math_RoundToEven)] [] [] 7 (fun _ => none) 0
theorem w_impl_nearest (x : Nat) (K : V → Heap → Prop) : wpFn c_impl_nearest Try.f163 (encAs [.cell tF] (x, ())) [] K =
 cond (ovf (fwhole Ieee.Toward.even (widen x)))
 (K .undef [])
 (K (.float .f32 (narrow (fwhole Ieee.Toward.even (widen x)))) []) := by kernel_rfl
noncomputable def s_impl_nearest : Sm := semT [.cell tF] fun x => match x with | (x, _) => .float .f32 (rintV x)
theorem ok_impl_nearest : FnOk Try.prog 163 s_impl_nearest := fnOk_typed (fnOk_runC (C := c_impl_nearest) rfl mixed (.cons ok_math_RoundToEven .nil) .nil .nil Try.func163 (by kernel_rfl)) fun (x : ((Nat) × Unit)) wf K h => by
  obtain ⟨x, ⟨⟩⟩ := x
  replace h : K (.float .f32 (rintV x)) [] := h
  rw [w_impl_nearest x K]
  exact cond_of (even_ovf wf.1.1 wf.1.2) h

def addV (a b : V3) : V3 := (fadd .f32 a.1 b.1, fadd .f32 a.2.1 b.2.1, fadd .f32 a.2.2 b.2.2)
def subV (a b : V3) : V3 := (fsub .f32 a.1 b.1, fsub .f32 a.2.1 b.2.1, fsub .f32 a.2.2 b.2.2)
def scaleV (a : V3) (n : Nat) : V3 := (fmul .f32 a.1 n, fmul .f32 a.2.1 n, fmul .f32 a.2.2 n)
def innerV (a b : V3) : Nat := fadd .f32 (fadd .f32 (fmul .f32 a.1 b.1) (fmul .f32 a.2.1 b.2.1)) (fmul .f32 a.2.2 b.2.2)
def rootV (x : Nat) : Nat := rootN x
def longV (a : V3) : Nat := rootV (innerV a a)
noncomputable def c_impl_AddVectors : Ctx := mkC Try.prog tyT [] [] [] 21 (fun _ => none) 0
theorem w_impl_AddVectors (a b : V3) (K : V → Heap → Prop) : wpFn c_impl_AddVectors Try.f109 (encAs [.agg tV, .agg tV] (a, b, ())) [] K =
 K (.agg [(.float .f32 (fadd FloatKind.f32 (Prod.fst a) (Prod.fst b))), (.float .f32 (fadd FloatKind.f32 (Prod.fst (Prod.snd a)) (Prod.fst (Prod.snd b)))), (.float .f32 (fadd FloatKind.f32 (Prod.snd (Prod.snd a)) (Prod.snd (Prod.snd b))))]) [] := by kernel_rfl
noncomputable def s_impl_AddVectors : Sm := semT [.agg tV, .agg tV] fun x => match x with | (a, b, _) => .agg (enc tV (addV a b))
theorem ok_impl_AddVectors : FnOk Try.prog 109 s_impl_AddVectors := fnOk_typed (fnOk_runC (C := c_impl_AddVectors) rfl mixed .nil .nil .nil Try.func109 (by kernel_rfl)) fun (x : ((V3) × (V3) × Unit)) wf K h => by
  obtain ⟨a, b, ⟨⟩⟩ := x
  replace h : K (.agg (enc tV (addV a b))) [] := h
  rw [w_impl_AddVectors a b K]
  exact h

noncomputable def c_impl_LessVectors : Ctx := mkC Try.prog tyT [] [] [] 21 (fun _ => none) 0
theorem w_impl_LessVectors (a b : V3) (K : V → Heap → Prop) : wpFn c_impl_LessVectors Try.f39 (encAs [.agg tV, .agg tV] (a, b, ())) [] K =
 K (.agg [(.float .f32 (fsub FloatKind.f32 (Prod.fst a) (Prod.fst b))), (.float .f32 (fsub FloatKind.f32 (Prod.fst (Prod.snd a)) (Prod.fst (Prod.snd b)))), (.float .f32 (fsub FloatKind.f32 (Prod.snd (Prod.snd a)) (Prod.snd (Prod.snd b))))]) [] := by kernel_rfl
noncomputable def s_impl_LessVectors : Sm := semT [.agg tV, .agg tV] fun x => match x with | (a, b, _) => .agg (enc tV (subV a b))
theorem ok_impl_LessVectors : FnOk Try.prog 39 s_impl_LessVectors := fnOk_typed (fnOk_runC (C := c_impl_LessVectors) rfl mixed .nil .nil .nil Try.func39 (by kernel_rfl)) fun (x : ((V3) × (V3) × Unit)) wf K h => by
  obtain ⟨a, b, ⟨⟩⟩ := x
  replace h : K (.agg (enc tV (subV a b))) [] := h
  rw [w_impl_LessVectors a b K]
  exact h

noncomputable def c_impl_ScaleVector : Ctx := mkC Try.prog tyT [] [] [] 18 (fun _ => none) 0
theorem w_impl_ScaleVector (a : V3) (n : Nat) (K : V → Heap → Prop) : wpFn c_impl_ScaleVector Try.f110 (encAs [.agg tV, .cell tF] (a, n, ())) [] K =
 K (.agg [(.float .f32 (fmul FloatKind.f32 (Prod.fst a) n)), (.float .f32 (fmul FloatKind.f32 (Prod.fst (Prod.snd a)) n)), (.float .f32 (fmul FloatKind.f32 (Prod.snd (Prod.snd a)) n))]) [] := by kernel_rfl
noncomputable def s_impl_ScaleVector : Sm := semT [.agg tV, .cell tF] fun x => match x with | (a, n, _) => .agg (enc tV (scaleV a n))
theorem ok_impl_ScaleVector : FnOk Try.prog 110 s_impl_ScaleVector := fnOk_typed (fnOk_runC (C := c_impl_ScaleVector) rfl mixed .nil .nil .nil Try.func110 (by kernel_rfl)) fun (x : ((V3) × (Nat) × Unit)) wf K h => by
  obtain ⟨a, n, ⟨⟩⟩ := x
  replace h : K (.agg (enc tV (scaleV a n))) [] := h
  rw [w_impl_ScaleVector a n K]
  exact h

noncomputable def c_impl_InnerOf : Ctx := mkC Try.prog tyT [] [] [] 22 (fun _ => none) 0
theorem w_impl_InnerOf (a b : V3) (K : V → Heap → Prop) : wpFn c_impl_InnerOf Try.f123 (encAs [.agg tV, .agg tV] (a, b, ())) [] K =
 K (.float .f32 (fadd FloatKind.f32 (fadd FloatKind.f32 (fmul FloatKind.f32 (Prod.fst a) (Prod.fst b)) (fmul FloatKind.f32 (Prod.fst (Prod.snd a)) (Prod.fst (Prod.snd b)))) (fmul FloatKind.f32 (Prod.snd (Prod.snd a)) (Prod.snd (Prod.snd b))))) [] := by kernel_rfl
noncomputable def s_impl_InnerOf : Sm := semT [.agg tV, .agg tV] fun x => match x with | (a, b, _) => .float .f32 (innerV a b)
theorem ok_impl_InnerOf : FnOk Try.prog 123 s_impl_InnerOf := fnOk_typed (fnOk_runC (C := c_impl_InnerOf) rfl mixed .nil .nil .nil Try.func123 (by kernel_rfl)) fun (x : ((V3) × (V3) × Unit)) wf K h => by
  obtain ⟨a, b, ⟨⟩⟩ := x
  replace h : K (.float .f32 (innerV a b)) [] := h
  rw [w_impl_InnerOf a b K]
  exact h

noncomputable def c_math_Sqrt : Ctx := mkC Try.prog tyT [(172, s_math_sqrt)] [] [] 5 (fun _ => none) 0
theorem w_math_Sqrt (x : Nat) (K : V → Heap → Prop) : wpFn c_math_Sqrt Try.f154 (encAs [.cell (.float .f64)] (x, ())) [] K =
 K (.float .f64 (fsqrt FloatKind.f64 x)) [] := by kernel_rfl
noncomputable def s_math_Sqrt : Sm := semT [.cell (.float .f64)] fun x => match x with | (x, _) => .float .f64 (fsqrt .f64 x)
theorem ok_math_Sqrt : FnOk Try.prog 154 s_math_Sqrt := fnOk_typed (fnOk_runC (C := c_math_Sqrt) rfl mixed (.cons ok_math_sqrt .nil) .nil .nil Try.func154 (by kernel_rfl)) fun (x : ((Nat) × Unit)) wf K h => by
  obtain ⟨x, ⟨⟩⟩ := x
  replace h : K (.float .f64 (fsqrt .f64 x)) [] := h
  rw [w_math_Sqrt x K]
  exact h

noncomputable def c_impl_RootNumber : Ctx := mkC Try.prog tyT [(154, s_math_Sqrt)] [] [] 7 (fun _ => none) 0
theorem w_impl_RootNumber (x : Nat) (K : V → Heap → Prop) : wpFn c_impl_RootNumber Try.f122 (encAs [.cell tF] (x, ())) [] K =
 cond (ovf (fsqrt FloatKind.f64 (widen x)))
 (K .undef [])
 (K (.float .f32 (narrow (fsqrt FloatKind.f64 (widen x)))) []) := by kernel_rfl
noncomputable def s_impl_RootNumber : Sm := semT [.cell tF] fun x => match x with | (x, _) => .float .f32 (rootV x)
theorem ok_impl_RootNumber : FnOk Try.prog 122 s_impl_RootNumber := fnOk_typed (fnOk_runC (C := c_impl_RootNumber) rfl mixed (.cons ok_math_Sqrt .nil) .nil .nil Try.func122 (by kernel_rfl)) fun (x : ((Nat) × Unit)) wf K h => by
  obtain ⟨x, ⟨⟩⟩ := x
  replace h : K (.float .f32 (rootV x)) [] := h
  rw [w_impl_RootNumber x K]
  rw [root_ovf wf.1.1 wf.1.2]
  exact h

noncomputable def c_impl_LongOf : Ctx := mkC Try.prog tyT [(123, s_impl_InnerOf), (122, s_impl_RootNumber)] [] [] 7 (fun _ => none) 0
theorem w_impl_LongOf (a : V3) (K : V → Heap → Prop) : wpFn c_impl_LongOf Try.f61 (encAs [.agg tV] (a, ())) [] K =
 K (.float .f32 (rootV (innerV a a))) [] := by kernel_rfl
noncomputable def s_impl_LongOf : Sm := semT [.agg tV] fun x => match x with | (a, _) => .float .f32 (longV a)
theorem ok_impl_LongOf : FnOk Try.prog 61 s_impl_LongOf := fnOk_typed (fnOk_runC (C := c_impl_LongOf) rfl mixed (.cons ok_impl_InnerOf (.cons ok_impl_RootNumber .nil)) .nil .nil Try.func61 (by kernel_rfl)) fun (x : ((V3) × Unit)) wf K h => by
  obtain ⟨a, ⟨⟩⟩ := x
  replace h : K (.float .f32 (longV a)) [] := h
  rw [w_impl_LongOf a K]
  exact h

end Go.Proofs.Ytfhpmcdbfebflaa

/- Distances of shapes: walks. -/
set_option linter.unusedVariables false
set_option linter.unusedSimpArgs false
set_option maxRecDepth 100000
namespace Go.Proofs.Ytfhpmcdbfebflaa
open Go.Ev Go.Ev.Fl

def lsV (x y : Nat) : Nat := bif flt .f32 y x then y else x
def grV (x y : Nat) : Nat := bif fgt .f32 y x then y else x
def absV (x : Nat) : Nat := bif flt .f32 x 0 then fneg .f32 x else x
def shoV (y d : Nat) : Nat := fsub .f32 y (lsV (grV 0 y) d)
def bulV (x k : Nat) : Nat := bif fgt .f32 x 0 then fdiv .f32 (fmul .f32 x x) (fmul .f32 1082130432 k) else 0
def foldV (c s : Nat) : Nat := fmul .f32 (fmul .f32 1073741824 s) (rintV (fdiv .f32 c (fmul .f32 1073741824 s)))
def nt (xs : List Nat) (i : Nat) : Nat := (xs[i]?).getD 0
def boxN (xs : List Nat) (p : V3) : Nat :=
  fadd .f32 (longV (grV 0 (fsub .f32 (absV p.1) (nt xs 0)), grV 0 (fsub .f32 (absV p.2.1) (nt xs 1)), grV 0 (fsub .f32 (absV p.2.2) (nt xs 2))))
    (lsV 0 (grV (grV (fsub .f32 (absV p.1) (nt xs 0)) (fsub .f32 (absV p.2.1) (nt xs 1))) (fsub .f32 (absV p.2.2) (nt xs 2))))
def leafV (k : Int) (xs : List Nat) (p : V3) : Nat :=
  bif k == 0 then fsub .f32 (longV p) (nt xs 0) else
  bif k == 1 then boxN xs p else
  bif k == 2 then fsub .f32 (longV (p.1, shoV p.2.1 (nt xs 0), p.2.2)) (nt xs 1) else
  bif k == 3 then fsub .f32 (longV (fsub .f32 (longV (p.1, 0, p.2.2)) (nt xs 0), p.2.1, 0)) (nt xs 1) else
  fsub .f32 (innerV p (nt xs 0, nt xs 1, nt xs 2)) (nt xs 3)
def smoN (r x y : Nat) : Nat := bif fgt .f32 (fsub .f32 r (absV (fsub .f32 x y))) 0 then fsub .f32 (lsV x y) (bulV (fsub .f32 r (absV (fsub .f32 x y))) r) else lsV x y
def mixV (k : Int) (xs : List Nat) (x y : Nat) : Nat :=
  bif k == 5 then lsV x y else bif k == 6 then grV x y else bif k == 7 then grV x (fneg .f32 y) else bif k == 8 then smoN (nt xs 0) x y else
  bif k == 10 then fmul .f32 x (nt xs 0) else bif k == 15 then fsub .f32 x (nt xs 0) else bif k == 16 then fsub .f32 (absV x) (nt xs 0) else x
def c3 (p : V3) (i : Int) : Nat := bif i == 0 then p.1 else bif i == 1 then p.2.1 else p.2.2
def set3 (p : V3) (i : Int) (x : Nat) : V3 := bif i == 0 then (x, p.2.1, p.2.2) else bif i == 1 then (p.1, x, p.2.2) else (p.1, p.2.1, x)
def turnN (a : Int) (v : Nat) (p : V3) : V3 :=
  set3 (set3 p ((a + 1) % 3) (fadd .f32 (fmul .f32 (sineF (fsub .f32 1048576000 v)) (c3 p ((a + 1) % 3))) (fmul .f32 (sineF v) (c3 p ((a + 2) % 3)))))
    ((a + 2) % 3) (fsub .f32 (fmul .f32 (sineF (fsub .f32 1048576000 v)) (c3 p ((a + 2) % 3))) (fmul .f32 (sineF v) (c3 p ((a + 1) % 3))))
def pointN (k a : Int) (xs : List Nat) (p : V3) : V3 :=
  bif k == 9 then subV p (nt xs 0, nt xs 1, nt xs 2) else
  bif k == 10 then (fdiv .f32 p.1 (nt xs 0), fdiv .f32 p.2.1 (nt xs 0), fdiv .f32 p.2.2 (nt xs 0)) else
  bif k == 11 then (fdiv .f32 p.1 (nt xs 0), fdiv .f32 p.2.1 (nt xs 1), fdiv .f32 p.2.2 (nt xs 2)) else
  bif k == 12 then turnN a (nt xs 0) p else
  bif k == 13 then set3 p a (absV (c3 p a)) else
  bif k == 14 then set3 p a (absV (fsub .f32 (c3 p a) (foldV (c3 p a) (nt xs 0)))) else p
def turnB (k : Int) (xs : List Nat) : Bool := !(k == 12) || (sineOk (nt xs 0) && sineOk (fsub .f32 1048576000 (nt xs 0)))

noncomputable def c_impl_lesser : Ctx := mkC Try.prog tyT [] [] [] 10 (fun _ => none) 0
theorem w_impl_lesser (x y : Nat) (K : V → Heap → Prop) : wpFn c_impl_lesser Try.f111 (encAs [.cell tF, .cell tF] (x, y, ())) [] K =
 cond (flt FloatKind.f32 y x)
 (K (.float .f32 (y)) [])
 (K (.float .f32 (x)) []) := by kernel_rfl
noncomputable def s_impl_lesser : Sm := semT [.cell tF, .cell tF] fun x => match x with | (x, y, _) => .float .f32 (lsV x y)
theorem ok_impl_lesser : FnOk Try.prog 111 s_impl_lesser := fnOk_typed (fnOk_runC (C := c_impl_lesser) rfl mixed .nil .nil .nil Try.func111 (by kernel_rfl)) fun (x : ((Nat) × (Nat) × Unit)) wf K h => by
  obtain ⟨x, y, ⟨⟩⟩ := x
  replace h : K (.float .f32 (lsV x y)) [] := h
  rw [w_impl_lesser x y K]
  revert h
  unfold lsV
  cases flt .f32 y x <;> exact id

noncomputable def c_impl_greater : Ctx := mkC Try.prog tyT [] [] [] 10 (fun _ => none) 0
theorem w_impl_greater (x y : Nat) (K : V → Heap → Prop) : wpFn c_impl_greater Try.f164 (encAs [.cell tF, .cell tF] (x, y, ())) [] K =
 cond (fgt FloatKind.f32 y x)
 (K (.float .f32 (y)) [])
 (K (.float .f32 (x)) []) := by kernel_rfl
noncomputable def s_impl_greater : Sm := semT [.cell tF, .cell tF] fun x => match x with | (x, y, _) => .float .f32 (grV x y)
theorem ok_impl_greater : FnOk Try.prog 164 s_impl_greater := fnOk_typed (fnOk_runC (C := c_impl_greater) rfl mixed .nil .nil .nil Try.func164 (by kernel_rfl)) fun (x : ((Nat) × (Nat) × Unit)) wf K h => by
  obtain ⟨x, y, ⟨⟩⟩ := x
  replace h : K (.float .f32 (grV x y)) [] := h
  rw [w_impl_greater x y K]
  revert h
  unfold grV
  cases fgt .f32 y x <;> exact id

noncomputable def c_impl_sizeOf : Ctx := mkC Try.prog tyT [] [] [] 8 (fun _ => none) 0
theorem w_impl_sizeOf (x : Nat) (K : V → Heap → Prop) : wpFn c_impl_sizeOf Try.f118 (encAs [.cell tF] (x, ())) [] K =
 cond (flt FloatKind.f32 x 0)
 (K (.float .f32 (fneg FloatKind.f32 x)) [])
 (K (.float .f32 (x)) []) := by kernel_rfl
noncomputable def s_impl_sizeOf : Sm := semT [.cell tF] fun x => match x with | (x, _) => .float .f32 (absV x)
theorem ok_impl_sizeOf : FnOk Try.prog 118 s_impl_sizeOf := fnOk_typed (fnOk_runC (C := c_impl_sizeOf) rfl mixed .nil .nil .nil Try.func118 (by kernel_rfl)) fun (x : ((Nat) × Unit)) wf K h => by
  obtain ⟨x, ⟨⟩⟩ := x
  replace h : K (.float .f32 (absV x)) [] := h
  rw [w_impl_sizeOf x K]
  revert h
  unfold absV
  cases flt .f32 x 0 <;> exact id

noncomputable def c_impl_shortened : Ctx := mkC Try.prog tyT [(111, s_impl_lesser), (164, s_impl_greater)] [] [] 11 (fun _ => none) 0
theorem w_impl_shortened (y d : Nat) (K : V → Heap → Prop) : wpFn c_impl_shortened Try.f165 (encAs [.cell tF, .cell tF] (y, d, ())) [] K =
 K (.float .f32 (fsub FloatKind.f32 y (lsV (grV 0 y) d))) [] := by kernel_rfl
noncomputable def s_impl_shortened : Sm := semT [.cell tF, .cell tF] fun x => match x with | (y, d, _) => .float .f32 (shoV y d)
theorem ok_impl_shortened : FnOk Try.prog 165 s_impl_shortened := fnOk_typed (fnOk_runC (C := c_impl_shortened) rfl mixed (.cons ok_impl_lesser (.cons ok_impl_greater .nil)) .nil .nil Try.func165 (by kernel_rfl)) fun (x : ((Nat) × (Nat) × Unit)) wf K h => by
  obtain ⟨y, d, ⟨⟩⟩ := x
  replace h : K (.float .f32 (shoV y d)) [] := h
  rw [w_impl_shortened y d K]
  exact h

noncomputable def c_impl_bulge : Ctx := mkC Try.prog tyT [] [] [] 13 (fun _ => none) 0
theorem w_impl_bulge (x k : Nat) (K : V → Heap → Prop) : wpFn c_impl_bulge Try.f166 (encAs [.cell tF, .cell tF] (x, k, ())) [] K =
 cond (fgt FloatKind.f32 x 0)
 (K (.float .f32 (fdiv FloatKind.f32 (fmul FloatKind.f32 x x) (fmul FloatKind.f32 1082130432 k))) [])
 (K (.float .f32 0) []) := by kernel_rfl
noncomputable def s_impl_bulge : Sm := semT [.cell tF, .cell tF] fun x => match x with | (x, k, _) => .float .f32 (bulV x k)
theorem ok_impl_bulge : FnOk Try.prog 166 s_impl_bulge := fnOk_typed (fnOk_runC (C := c_impl_bulge) rfl mixed .nil .nil .nil Try.func166 (by kernel_rfl)) fun (x : ((Nat) × (Nat) × Unit)) wf K h => by
  obtain ⟨x, k, ⟨⟩⟩ := x
  replace h : K (.float .f32 (bulV x k)) [] := h
  rw [w_impl_bulge x k K]
  revert h
  unfold bulV
  cases fgt .f32 x 0 <;> exact id

noncomputable def c_impl_foldOf : Ctx := mkC Try.prog tyT [(163, s_impl_nearest)] [] [] 13 (fun _ => none) 0
theorem w_impl_foldOf (x s : Nat) (K : V → Heap → Prop) : wpFn c_impl_foldOf Try.f137 (encAs [.cell tF, .cell tF] (x, s, ())) [] K =
 K (.float .f32 (fmul FloatKind.f32 (fmul FloatKind.f32 1073741824 s) (rintV (fdiv FloatKind.f32 x (fmul FloatKind.f32 1073741824 s))))) [] := by kernel_rfl
noncomputable def s_impl_foldOf : Sm := semT [.cell tF, .cell tF] fun x => match x with | (x, s, _) => .float .f32 (foldV x s)
theorem ok_impl_foldOf : FnOk Try.prog 137 s_impl_foldOf := fnOk_typed (fnOk_runC (C := c_impl_foldOf) rfl mixed (.cons ok_impl_nearest .nil) .nil .nil Try.func137 (by kernel_rfl)) fun (x : ((Nat) × (Nat) × Unit)) wf K h => by
  obtain ⟨x, s, ⟨⟩⟩ := x
  replace h : K (.float .f32 (foldV x s)) [] := h
  rw [w_impl_foldOf x s K]
  exact h

noncomputable def c_impl_coordinates : Ctx := mkC Try.prog tyT [] [] [] 10 (fun _ => none) 0
theorem w_impl_coordinates (u v w : Nat) (K : V → Heap → Prop) : wpFn c_impl_coordinates Try.f135 (encAs [.agg tV] ((u, v, w), ())) [] K =
 K (.agg [(.float .f32 (u)), (.float .f32 (v)), (.float .f32 (w))]) [] := by kernel_rfl
noncomputable def s_impl_coordinates : Sm := semT [.agg tV] fun x => match x with | ((u, v, w), _) => .agg [.float .f32 u, .float .f32 v, .float .f32 w]
theorem ok_impl_coordinates : FnOk Try.prog 135 s_impl_coordinates := fnOk_typed (fnOk_runC (C := c_impl_coordinates) rfl mixed .nil .nil .nil Try.func135 (by kernel_rfl)) fun (x : (((Nat) × (Nat) × (Nat)) × Unit)) wf K h => by
  obtain ⟨⟨u, v, w⟩, ⟨⟩⟩ := x
  replace h : K (.agg [.float .f32 u, .float .f32 v, .float .f32 w]) [] := h
  rw [w_impl_coordinates u v w K]
  exact h

noncomputable def c_impl_vectorOf : Ctx := mkC Try.prog tyT [] [] [] 10 (fun _ => none) 0
theorem w_impl_vectorOf (u v w : Nat) (K : V → Heap → Prop) : wpFn c_impl_vectorOf Try.f138 (encAs [.agg tV] ((u, v, w), ())) [] K =
 K (.agg [(.float .f32 (u)), (.float .f32 (v)), (.float .f32 (w))]) [] := by kernel_rfl
noncomputable def s_impl_vectorOf : Sm := semT [.agg tV] fun x => match x with | ((u, v, w), _) => .agg [.float .f32 u, .float .f32 v, .float .f32 w]
theorem ok_impl_vectorOf : FnOk Try.prog 138 s_impl_vectorOf := fnOk_typed (fnOk_runC (C := c_impl_vectorOf) rfl mixed .nil .nil .nil Try.func138 (by kernel_rfl)) fun (x : (((Nat) × (Nat) × (Nat)) × Unit)) wf K h => by
  obtain ⟨⟨u, v, w⟩, ⟨⟩⟩ := x
  replace h : K (.agg [.float .f32 u, .float .f32 v, .float .f32 w]) [] := h
  rw [w_impl_vectorOf u v w K]
  exact h

theorem nums_len {k : Int} {xs : List Nat} (h : numsB k xs = true) : (xs.length : Int) = kindN k := by
  unfold numsB at h
  simp only [Bool.and_eq_true, beq_iff_eq] at h
  exact h.2.1
theorem nums_isK {k : Int} {xs : List Nat} (h : numsB k xs = true) : isK k = true := by
  unfold numsB at h
  simp only [Bool.and_eq_true] at h
  exact h.1
theorem list1 {xs : List Nat} (h : (xs.length : Int) = 1) : ∃ x, xs = [x] := List.length_eq_one_iff.1 (by omega)
theorem list2 {xs : List Nat} (h : (xs.length : Int) = 2) : ∃ x y, xs = [x, y] := by
  match xs, h with
  | [x, y], _ => exact ⟨x, y, rfl⟩
  | [], h => simp at h
  | [_], h => simp at h
  | _ :: _ :: _ :: _, h => simp only [List.length_cons] at h; omega
theorem list3 {xs : List Nat} (h : (xs.length : Int) = 3) : ∃ x y z, xs = [x, y, z] := by
  match xs, h with
  | [x, y, z], _ => exact ⟨x, y, z, rfl⟩
  | [], h => simp at h
  | [_], h => simp at h
  | [_, _], h => simp at h
  | _ :: _ :: _ :: _ :: _, h => simp only [List.length_cons] at h; omega
theorem list4 {xs : List Nat} (h : (xs.length : Int) = 4) : ∃ x y z w, xs = [x, y, z, w] := by
  match xs, h with
  | [x, y, z, w], _ => exact ⟨x, y, z, w, rfl⟩
  | [], h => simp at h
  | [_], h => simp at h
  | [_, _], h => simp at h
  | [_, _, _], h => simp at h
  | _ :: _ :: _ :: _ :: _ :: _, h => simp only [List.length_cons] at h; omega

noncomputable def c_impl_Node_leaf : Ctx := mkC Try.prog tyT [(61, s_impl_LongOf), (118, s_impl_sizeOf), (164, s_impl_greater), (111, s_impl_lesser), (165, s_impl_shortened), (123, s_impl_InnerOf)] [] [] 117 (fun _ => none) 0
theorem w_impl_Node_leaf_0 (a c : Int) (xs : List Nat) (p : V3) (K : V → Heap → Prop) : wpFn c_impl_Node_leaf Try.f139 (encAs [.ref tN, .agg tV] ((0, a, c, xs), p, ())) [] K =
  (match xs[0]? with
    | some y0 => K (.float .f32 (fsub FloatKind.f32 (longV p) y0)) []
    | none => False) := by kernel_rfl
theorem w_impl_Node_leaf_1 (a c : Int) (xs : List Nat) (p : V3) (K : V → Heap → Prop) : wpFn c_impl_Node_leaf Try.f139 (encAs [.ref tN, .agg tV] ((1, a, c, xs), p, ())) [] K =
  (match xs[0]? with
    | some y0 => (match xs[1]? with
      | some y1 => (match xs[2]? with
        | some y2 => K (.float .f32 (fadd FloatKind.f32 (longV (grV 0 (fsub FloatKind.f32 (absV (Prod.fst p)) y0), grV 0 (fsub FloatKind.f32 (absV (Prod.fst (Prod.snd p))) y1), grV 0 (fsub FloatKind.f32 (absV (Prod.snd (Prod.snd p))) y2))) (lsV 0 (grV (grV (fsub FloatKind.f32 (absV (Prod.fst p)) y0) (fsub FloatKind.f32 (absV (Prod.fst (Prod.snd p))) y1)) (fsub FloatKind.f32 (absV (Prod.snd (Prod.snd p))) y2))))) []
        | none => False)
      | none => False)
    | none => False) := by kernel_rfl
theorem w_impl_Node_leaf_2 (a c : Int) (xs : List Nat) (p : V3) (K : V → Heap → Prop) : wpFn c_impl_Node_leaf Try.f139 (encAs [.ref tN, .agg tV] ((2, a, c, xs), p, ())) [] K =
  (match xs[0]? with
    | some y0 => (match xs[1]? with
      | some y1 => K (.float .f32 (fsub FloatKind.f32 (longV (Prod.fst p, shoV (Prod.fst (Prod.snd p)) y0, Prod.snd (Prod.snd p))) y1)) []
      | none => False)
    | none => False) := by kernel_rfl
theorem w_impl_Node_leaf_3 (a c : Int) (xs : List Nat) (p : V3) (K : V → Heap → Prop) : wpFn c_impl_Node_leaf Try.f139 (encAs [.ref tN, .agg tV] ((3, a, c, xs), p, ())) [] K =
  (match xs[0]? with
    | some y0 => (match xs[1]? with
      | some y1 => K (.float .f32 (fsub FloatKind.f32 (longV (fsub FloatKind.f32 (longV (Prod.fst p, 0, Prod.snd (Prod.snd p))) y0, Prod.fst (Prod.snd p), 0)) y1)) []
      | none => False)
    | none => False) := by kernel_rfl
theorem w_impl_Node_leaf_4 (a c : Int) (xs : List Nat) (p : V3) (K : V → Heap → Prop) : wpFn c_impl_Node_leaf Try.f139 (encAs [.ref tN, .agg tV] ((4, a, c, xs), p, ())) [] K =
  (match xs[0]? with
    | some y0 => (match xs[1]? with
      | some y1 => (match xs[2]? with
        | some y2 => (match xs[3]? with
          | some y3 => K (.float .f32 (fsub FloatKind.f32 (innerV p (y0, y1, y2)) y3)) []
          | none => False)
        | none => False)
      | none => False)
    | none => False) := by kernel_rfl
noncomputable def s_impl_Node_leaf : Sm := semG [.ref tN, .agg tV] (fun x => match x with | ((k, a, c, xs), p, _) => numsB k xs && inR k 0 4) fun x => match x with | ((k, a, c, xs), p, _) => .float .f32 (leafV k xs p)
theorem ok_impl_Node_leaf : FnOk Try.prog 139 s_impl_Node_leaf := fnOk_typedG (fnOk_runC (C := c_impl_Node_leaf) rfl mixed (.cons ok_impl_LongOf (.cons ok_impl_sizeOf (.cons ok_impl_greater (.cons ok_impl_lesser (.cons ok_impl_shortened (.cons ok_impl_InnerOf .nil)))))) .nil .nil Try.func139 (by kernel_rfl)) fun (x : (((Int) × (Int) × (Int) × (List Nat)) × (V3) × Unit)) wf hg K h => by
  obtain ⟨⟨k, a, c, xs⟩, p, ⟨⟩⟩ := x
  replace hg : (numsB k xs && inR k 0 4) = true := hg
  replace h : K (.float .f32 (leafV k xs p)) [] := h
  simp only [Bool.and_eq_true] at hg
  obtain ⟨h1, h2⟩ := hg
  have hl := nums_len h1
  have h2 := inR_iff.1 h2
  rcases (by omega : k = 0 ∨ k = 1 ∨ k = 2 ∨ k = 3 ∨ k = 4) with rfl | rfl | rfl | rfl | rfl
  · obtain ⟨x, rfl⟩ := list1 hl
    rw [w_impl_Node_leaf_0 a c _ p K]; exact Eq.mp (by kernel_rfl) h
  · obtain ⟨x, y, z, rfl⟩ := list3 hl
    rw [w_impl_Node_leaf_1 a c _ p K]; exact Eq.mp (by kernel_rfl) h
  · obtain ⟨x, y, rfl⟩ := list2 hl
    rw [w_impl_Node_leaf_2 a c _ p K]; exact Eq.mp (by kernel_rfl) h
  · obtain ⟨x, y, rfl⟩ := list2 hl
    rw [w_impl_Node_leaf_3 a c _ p K]; exact Eq.mp (by kernel_rfl) h
  · obtain ⟨x, y, z, w, rfl⟩ := list4 hl
    rw [w_impl_Node_leaf_4 a c _ p K]; exact Eq.mp (by kernel_rfl) h

noncomputable def c_impl_Node_mix : Ctx := mkC Try.prog tyT [(111, s_impl_lesser), (164, s_impl_greater), (118, s_impl_sizeOf), (166, s_impl_bulge)] [] [] 90 (fun _ => none) 0
theorem w_impl_Node_mix_5 (a c : Int) (xs : List Nat) (u v : Nat) (K : V → Heap → Prop) : wpFn c_impl_Node_mix Try.f140 (encAs [.ref tN, .cell tF, .cell tF] ((5, a, c, xs), u, v, ())) [] K =
 K (.float .f32 (lsV u v)) [] := by kernel_rfl
theorem w_impl_Node_mix_6 (a c : Int) (xs : List Nat) (u v : Nat) (K : V → Heap → Prop) : wpFn c_impl_Node_mix Try.f140 (encAs [.ref tN, .cell tF, .cell tF] ((6, a, c, xs), u, v, ())) [] K =
 K (.float .f32 (grV u v)) [] := by kernel_rfl
theorem w_impl_Node_mix_7 (a c : Int) (xs : List Nat) (u v : Nat) (K : V → Heap → Prop) : wpFn c_impl_Node_mix Try.f140 (encAs [.ref tN, .cell tF, .cell tF] ((7, a, c, xs), u, v, ())) [] K =
 K (.float .f32 (grV u (fneg FloatKind.f32 v))) [] := by kernel_rfl
theorem w_impl_Node_mix_8 (a c : Int) (xs : List Nat) (u v : Nat) (K : V → Heap → Prop) : wpFn c_impl_Node_mix Try.f140 (encAs [.ref tN, .cell tF, .cell tF] ((8, a, c, xs), u, v, ())) [] K =
  (match xs[0]? with
    | some y0 => cond (fgt FloatKind.f32 (fsub FloatKind.f32 y0 (absV (fsub FloatKind.f32 u v))) 0)
      ((match xs[0]? with
        | some y1 => K (.float .f32 (fsub FloatKind.f32 (lsV u v) (bulV (fsub FloatKind.f32 y0 (absV (fsub FloatKind.f32 u v))) y1))) []
        | none => False))
      (K (.float .f32 (lsV u v)) [])
    | none => False) := by kernel_rfl
theorem w_impl_Node_mix_9 (a c : Int) (xs : List Nat) (u v : Nat) (K : V → Heap → Prop) : wpFn c_impl_Node_mix Try.f140 (encAs [.ref tN, .cell tF, .cell tF] ((9, a, c, xs), u, v, ())) [] K =
 K (.float .f32 (u)) [] := by kernel_rfl
theorem w_impl_Node_mix_10 (a c : Int) (xs : List Nat) (u v : Nat) (K : V → Heap → Prop) : wpFn c_impl_Node_mix Try.f140 (encAs [.ref tN, .cell tF, .cell tF] ((10, a, c, xs), u, v, ())) [] K =
  (match xs[0]? with
    | some y0 => K (.float .f32 (fmul FloatKind.f32 u y0)) []
    | none => False) := by kernel_rfl
theorem w_impl_Node_mix_11 (a c : Int) (xs : List Nat) (u v : Nat) (K : V → Heap → Prop) : wpFn c_impl_Node_mix Try.f140 (encAs [.ref tN, .cell tF, .cell tF] ((11, a, c, xs), u, v, ())) [] K =
 K (.float .f32 (u)) [] := by kernel_rfl
theorem w_impl_Node_mix_12 (a c : Int) (xs : List Nat) (u v : Nat) (K : V → Heap → Prop) : wpFn c_impl_Node_mix Try.f140 (encAs [.ref tN, .cell tF, .cell tF] ((12, a, c, xs), u, v, ())) [] K =
 K (.float .f32 (u)) [] := by kernel_rfl
theorem w_impl_Node_mix_13 (a c : Int) (xs : List Nat) (u v : Nat) (K : V → Heap → Prop) : wpFn c_impl_Node_mix Try.f140 (encAs [.ref tN, .cell tF, .cell tF] ((13, a, c, xs), u, v, ())) [] K =
 K (.float .f32 (u)) [] := by kernel_rfl
theorem w_impl_Node_mix_14 (a c : Int) (xs : List Nat) (u v : Nat) (K : V → Heap → Prop) : wpFn c_impl_Node_mix Try.f140 (encAs [.ref tN, .cell tF, .cell tF] ((14, a, c, xs), u, v, ())) [] K =
 K (.float .f32 (u)) [] := by kernel_rfl
theorem w_impl_Node_mix_15 (a c : Int) (xs : List Nat) (u v : Nat) (K : V → Heap → Prop) : wpFn c_impl_Node_mix Try.f140 (encAs [.ref tN, .cell tF, .cell tF] ((15, a, c, xs), u, v, ())) [] K =
  (match xs[0]? with
    | some y0 => K (.float .f32 (fsub FloatKind.f32 u y0)) []
    | none => False) := by kernel_rfl
theorem w_impl_Node_mix_16 (a c : Int) (xs : List Nat) (u v : Nat) (K : V → Heap → Prop) : wpFn c_impl_Node_mix Try.f140 (encAs [.ref tN, .cell tF, .cell tF] ((16, a, c, xs), u, v, ())) [] K =
  (match xs[0]? with
    | some y0 => K (.float .f32 (fsub FloatKind.f32 (absV u) y0)) []
    | none => False) := by kernel_rfl
noncomputable def s_impl_Node_mix : Sm := semG [.ref tN, .cell tF, .cell tF] (fun x => match x with | ((k, a, c, xs), u, v, _) => numsB k xs && inR k 5 16) fun x => match x with | ((k, a, c, xs), u, v, _) => .float .f32 (mixV k xs u v)
theorem ok_impl_Node_mix : FnOk Try.prog 140 s_impl_Node_mix := fnOk_typedG (fnOk_runC (C := c_impl_Node_mix) rfl mixed (.cons ok_impl_lesser (.cons ok_impl_greater (.cons ok_impl_sizeOf (.cons ok_impl_bulge .nil)))) .nil .nil Try.func140 (by kernel_rfl)) fun (x : (((Int) × (Int) × (Int) × (List Nat)) × (Nat) × (Nat) × Unit)) wf hg K h => by
  obtain ⟨⟨k, a, c, xs⟩, u, v, ⟨⟩⟩ := x
  replace hg : (numsB k xs && inR k 5 16) = true := hg
  replace h : K (.float .f32 (mixV k xs u v)) [] := h
  simp only [Bool.and_eq_true] at hg
  obtain ⟨h1, h2⟩ := hg
  have hl := nums_len h1
  have h2 := inR_iff.1 h2
  rcases (by omega : k = 5 ∨ k = 6 ∨ k = 7 ∨ k = 8 ∨ k = 9 ∨ k = 10 ∨ k = 11 ∨ k = 12 ∨ k = 13 ∨ k = 14 ∨ k = 15 ∨ k = 16) with rfl | rfl | rfl | rfl | rfl | rfl | rfl | rfl | rfl | rfl | rfl | rfl
  · rw [w_impl_Node_mix_5 a c _ u v K]; exact Eq.mp (by kernel_rfl) h
  · rw [w_impl_Node_mix_6 a c _ u v K]; exact Eq.mp (by kernel_rfl) h
  · rw [w_impl_Node_mix_7 a c _ u v K]; exact Eq.mp (by kernel_rfl) h
  · obtain ⟨x, rfl⟩ := list1 hl
    rw [w_impl_Node_mix_8 a c _ u v K]
    replace h : K (.float .f32 (smoN x u v)) [] := h
    unfold smoN at h
    show cond (fgt .f32 (fsub .f32 x (absV (fsub .f32 u v))) 0) (K (.float .f32 (fsub .f32 (lsV u v) (bulV (fsub .f32 x (absV (fsub .f32 u v))) x))) []) (K (.float .f32 (lsV u v)) [])
    revert h
    cases fgt .f32 (fsub .f32 x (absV (fsub .f32 u v))) 0 <;> exact id
  · rw [w_impl_Node_mix_9 a c _ u v K]; exact Eq.mp (by kernel_rfl) h
  · obtain ⟨x, rfl⟩ := list1 hl
    rw [w_impl_Node_mix_10 a c _ u v K]; exact Eq.mp (by kernel_rfl) h
  · rw [w_impl_Node_mix_11 a c _ u v K]; exact Eq.mp (by kernel_rfl) h
  · rw [w_impl_Node_mix_12 a c _ u v K]; exact Eq.mp (by kernel_rfl) h
  · rw [w_impl_Node_mix_13 a c _ u v K]; exact Eq.mp (by kernel_rfl) h
  · rw [w_impl_Node_mix_14 a c _ u v K]; exact Eq.mp (by kernel_rfl) h
  · obtain ⟨x, rfl⟩ := list1 hl
    rw [w_impl_Node_mix_15 a c _ u v K]; exact Eq.mp (by kernel_rfl) h
  · obtain ⟨x, rfl⟩ := list1 hl
    rw [w_impl_Node_mix_16 a c _ u v K]; exact Eq.mp (by kernel_rfl) h

noncomputable def c_impl_Node_point : Ctx := mkC Try.prog tyT [(135, s_impl_coordinates), (39, s_impl_LessVectors), (136, s_impl_SineTurns), (118, s_impl_sizeOf), (137, s_impl_foldOf), (138, s_impl_vectorOf)] [] [] 167 (fun _ => none) 0 false [(135, s_impl_coordinates), (39, s_impl_LessVectors), (136, s_impl_SineTurns), (118, s_impl_sizeOf), (137, s_impl_foldOf), (138, s_impl_vectorOf)] false true true []
theorem w_impl_Node_point_9 (a c : Int) (xs : List Nat) (u v w : Nat) (K : V → Heap → Prop) : wpFn c_impl_Node_point Try.f85 (encAs [.ref tN, .agg tV] ((9, a, c, xs), (u, v, w), ())) [] K =
  (match xs[0]? with
    | some y0 => (match xs[1]? with
      | some y1 => (match xs[2]? with
        | some y2 => K (.agg [(.float .f32 (Prod.fst (subV (u, v, w) (y0, y1, y2)))), (.float .f32 (Prod.fst (Prod.snd (subV (u, v, w) (y0, y1, y2))))), (.float .f32 (Prod.snd (Prod.snd (subV (u, v, w) (y0, y1, y2)))))]) []
        | none => False)
      | none => False)
    | none => False) := by kernel_rfl
theorem w_impl_Node_point_10 (a c : Int) (xs : List Nat) (u v w : Nat) (K : V → Heap → Prop) : wpFn c_impl_Node_point Try.f85 (encAs [.ref tN, .agg tV] ((10, a, c, xs), (u, v, w), ())) [] K =
  (match xs[0]? with
    | some y0 => (match xs[0]? with
      | some y1 => (match xs[0]? with
        | some y2 => K (.agg [(.float .f32 (fdiv FloatKind.f32 u y0)), (.float .f32 (fdiv FloatKind.f32 v y1)), (.float .f32 (fdiv FloatKind.f32 w y2))]) []
        | none => False)
      | none => False)
    | none => False) := by kernel_rfl
theorem w_impl_Node_point_11 (a c : Int) (xs : List Nat) (u v w : Nat) (K : V → Heap → Prop) : wpFn c_impl_Node_point Try.f85 (encAs [.ref tN, .agg tV] ((11, a, c, xs), (u, v, w), ())) [] K =
  (match xs[0]? with
    | some y0 => (match xs[1]? with
      | some y1 => (match xs[2]? with
        | some y2 => K (.agg [(.float .f32 (fdiv FloatKind.f32 u y0)), (.float .f32 (fdiv FloatKind.f32 v y1)), (.float .f32 (fdiv FloatKind.f32 w y2))]) []
        | none => False)
      | none => False)
    | none => False) := by kernel_rfl
theorem w_impl_Node_point_12_0 (a : Int) (xs : List Nat) (u v w : Nat) (K : V → Heap → Prop) : wpFn c_impl_Node_point Try.f85 (encAs [.ref tN, .agg tV] ((12, a, 0, xs), (u, v, w), ())) [] K =
  (match xs[0]? with
    | some y0 => cond (sineOk (fsub FloatKind.f32 1048576000 y0))
      ((match xs[0]? with
        | some y1 => cond (sineOk y1)
          (K (.agg [(.float .f32 (u)), (.float .f32 (fadd FloatKind.f32 (fmul FloatKind.f32 (sineF (fsub FloatKind.f32 1048576000 y0)) v) (fmul FloatKind.f32 (sineF y1) w))), (.float .f32 (fsub FloatKind.f32 (fmul FloatKind.f32 (sineF (fsub FloatKind.f32 1048576000 y0)) w) (fmul FloatKind.f32 (sineF y1) v)))]) [])
          (False)
        | none => False))
      (False)
    | none => False) := by kernel_rfl
theorem w_impl_Node_point_12_1 (a : Int) (xs : List Nat) (u v w : Nat) (K : V → Heap → Prop) : wpFn c_impl_Node_point Try.f85 (encAs [.ref tN, .agg tV] ((12, a, 1, xs), (u, v, w), ())) [] K =
  (match xs[0]? with
    | some y0 => cond (sineOk (fsub FloatKind.f32 1048576000 y0))
      ((match xs[0]? with
        | some y1 => cond (sineOk y1)
          (K (.agg [(.float .f32 (fsub FloatKind.f32 (fmul FloatKind.f32 (sineF (fsub FloatKind.f32 1048576000 y0)) u) (fmul FloatKind.f32 (sineF y1) w))), (.float .f32 (v)), (.float .f32 (fadd FloatKind.f32 (fmul FloatKind.f32 (sineF (fsub FloatKind.f32 1048576000 y0)) w) (fmul FloatKind.f32 (sineF y1) u)))]) [])
          (False)
        | none => False))
      (False)
    | none => False) := by kernel_rfl
theorem w_impl_Node_point_12_2 (a : Int) (xs : List Nat) (u v w : Nat) (K : V → Heap → Prop) : wpFn c_impl_Node_point Try.f85 (encAs [.ref tN, .agg tV] ((12, a, 2, xs), (u, v, w), ())) [] K =
  (match xs[0]? with
    | some y0 => cond (sineOk (fsub FloatKind.f32 1048576000 y0))
      ((match xs[0]? with
        | some y1 => cond (sineOk y1)
          (K (.agg [(.float .f32 (fadd FloatKind.f32 (fmul FloatKind.f32 (sineF (fsub FloatKind.f32 1048576000 y0)) u) (fmul FloatKind.f32 (sineF y1) v))), (.float .f32 (fsub FloatKind.f32 (fmul FloatKind.f32 (sineF (fsub FloatKind.f32 1048576000 y0)) v) (fmul FloatKind.f32 (sineF y1) u))), (.float .f32 (w))]) [])
          (False)
        | none => False))
      (False)
    | none => False) := by kernel_rfl
theorem w_impl_Node_point_13_0 (a : Int) (xs : List Nat) (u v w : Nat) (K : V → Heap → Prop) : wpFn c_impl_Node_point Try.f85 (encAs [.ref tN, .agg tV] ((13, a, 0, xs), (u, v, w), ())) [] K =
 K (.agg [(.float .f32 (absV u)), (.float .f32 (v)), (.float .f32 (w))]) [] := by kernel_rfl
theorem w_impl_Node_point_13_1 (a : Int) (xs : List Nat) (u v w : Nat) (K : V → Heap → Prop) : wpFn c_impl_Node_point Try.f85 (encAs [.ref tN, .agg tV] ((13, a, 1, xs), (u, v, w), ())) [] K =
 K (.agg [(.float .f32 (u)), (.float .f32 (absV v)), (.float .f32 (w))]) [] := by kernel_rfl
theorem w_impl_Node_point_13_2 (a : Int) (xs : List Nat) (u v w : Nat) (K : V → Heap → Prop) : wpFn c_impl_Node_point Try.f85 (encAs [.ref tN, .agg tV] ((13, a, 2, xs), (u, v, w), ())) [] K =
 K (.agg [(.float .f32 (u)), (.float .f32 (v)), (.float .f32 (absV w))]) [] := by kernel_rfl
theorem w_impl_Node_point_14_0 (a : Int) (xs : List Nat) (u v w : Nat) (K : V → Heap → Prop) : wpFn c_impl_Node_point Try.f85 (encAs [.ref tN, .agg tV] ((14, a, 0, xs), (u, v, w), ())) [] K =
  (match xs[0]? with
    | some y0 => K (.agg [(.float .f32 (absV (fsub FloatKind.f32 u (foldV u y0)))), (.float .f32 (v)), (.float .f32 (w))]) []
    | none => False) := by kernel_rfl
theorem w_impl_Node_point_14_1 (a : Int) (xs : List Nat) (u v w : Nat) (K : V → Heap → Prop) : wpFn c_impl_Node_point Try.f85 (encAs [.ref tN, .agg tV] ((14, a, 1, xs), (u, v, w), ())) [] K =
  (match xs[0]? with
    | some y0 => K (.agg [(.float .f32 (u)), (.float .f32 (absV (fsub FloatKind.f32 v (foldV v y0)))), (.float .f32 (w))]) []
    | none => False) := by kernel_rfl
theorem w_impl_Node_point_14_2 (a : Int) (xs : List Nat) (u v w : Nat) (K : V → Heap → Prop) : wpFn c_impl_Node_point Try.f85 (encAs [.ref tN, .agg tV] ((14, a, 2, xs), (u, v, w), ())) [] K =
  (match xs[0]? with
    | some y0 => K (.agg [(.float .f32 (u)), (.float .f32 (v)), (.float .f32 (absV (fsub FloatKind.f32 w (foldV w y0))))]) []
    | none => False) := by kernel_rfl
theorem w_impl_Node_point_15 (a c : Int) (xs : List Nat) (u v w : Nat) (K : V → Heap → Prop) : wpFn c_impl_Node_point Try.f85 (encAs [.ref tN, .agg tV] ((15, a, c, xs), (u, v, w), ())) [] K =
 K (.agg [(.float .f32 (u)), (.float .f32 (v)), (.float .f32 (w))]) [] := by kernel_rfl
theorem w_impl_Node_point_16 (a c : Int) (xs : List Nat) (u v w : Nat) (K : V → Heap → Prop) : wpFn c_impl_Node_point Try.f85 (encAs [.ref tN, .agg tV] ((16, a, c, xs), (u, v, w), ())) [] K =
 K (.agg [(.float .f32 (u)), (.float .f32 (v)), (.float .f32 (w))]) [] := by kernel_rfl
noncomputable def s_impl_Node_point : Sm := semG [.ref tN, .agg tV] (fun x => match x with | ((k, a, c, xs), (u, v, w), _) => numsB k xs && (inR k 9 16 && (axB k a c && turnB k xs))) fun x => match x with | ((k, a, c, xs), (u, v, w), _) => .agg (enc tV (pointN k c xs (u, v, w)))
theorem ok_impl_Node_point : FnOk Try.prog 85 s_impl_Node_point := fnOk_typedG (fnOk_runC (C := c_impl_Node_point) rfl mixed (.cons ok_impl_coordinates (.cons ok_impl_LessVectors (.cons ok_impl_SineTurns (.cons ok_impl_sizeOf (.cons ok_impl_foldOf (.cons ok_impl_vectorOf .nil)))))) .nil .nil Try.func85 (by kernel_rfl) (.cons ok_impl_coordinates (.cons ok_impl_LessVectors (.cons ok_impl_SineTurns (.cons ok_impl_sizeOf (.cons ok_impl_foldOf (.cons ok_impl_vectorOf .nil))))))) fun (x : (((Int) × (Int) × (Int) × (List Nat)) × ((Nat) × (Nat) × (Nat)) × Unit)) wf hg K h => by
  obtain ⟨⟨k, a, c, xs⟩, ⟨u, v, w⟩, ⟨⟩⟩ := x
  replace hg : (numsB k xs && (inR k 9 16 && (axB k a c && turnB k xs))) = true := hg
  replace h : K (.agg (enc tV (pointN k c xs (u, v, w)))) [] := h
  simp only [Bool.and_eq_true] at hg
  obtain ⟨h1, h2, h3, h4⟩ := hg
  have hl := nums_len h1
  have h2 := inR_iff.1 h2
  have ax : k = 12 ∨ k = 13 ∨ k = 14 → c = 0 ∨ c = 1 ∨ c = 2 := by
    intro e
    have : (c == 0 || inR c 0 2) = true := by rcases e with rfl | rfl | rfl <;> exact h3
    rw [Bool.or_eq_true, beq_iff_eq] at this
    rcases this with e | e
    · omega
    · have := inR_iff.1 e; omega
  rcases (by omega : k = 9 ∨ k = 10 ∨ k = 11 ∨ k = 12 ∨ k = 13 ∨ k = 14 ∨ k = 15 ∨ k = 16) with rfl | rfl | rfl | rfl | rfl | rfl | rfl | rfl
  · obtain ⟨x, y, z, rfl⟩ := list3 hl
    rw [w_impl_Node_point_9 a c _ u v w K]; exact Eq.mp (by kernel_rfl) h
  · obtain ⟨x, rfl⟩ := list1 hl
    rw [w_impl_Node_point_10 a c _ u v w K]; exact Eq.mp (by kernel_rfl) h
  · obtain ⟨x, y, z, rfl⟩ := list3 hl
    rw [w_impl_Node_point_11 a c _ u v w K]; exact Eq.mp (by kernel_rfl) h
  · obtain ⟨x, rfl⟩ := list1 hl
    have h4 : (sineOk x && sineOk (fsub .f32 1048576000 x)) = true := h4
    simp only [Bool.and_eq_true] at h4
    rcases ax (by omega) with rfl | rfl | rfl
    · rw [w_impl_Node_point_12_0 a _ u v w K]; exact cond_yes h4.2 (cond_yes h4.1 (Eq.mp (by kernel_rfl) h))
    · rw [w_impl_Node_point_12_1 a _ u v w K]; exact cond_yes h4.2 (cond_yes h4.1 (Eq.mp (by kernel_rfl) h))
    · rw [w_impl_Node_point_12_2 a _ u v w K]; exact cond_yes h4.2 (cond_yes h4.1 (Eq.mp (by kernel_rfl) h))
  · rcases ax (by omega) with rfl | rfl | rfl
    · rw [w_impl_Node_point_13_0 a _ u v w K]; exact Eq.mp (by kernel_rfl) h
    · rw [w_impl_Node_point_13_1 a _ u v w K]; exact Eq.mp (by kernel_rfl) h
    · rw [w_impl_Node_point_13_2 a _ u v w K]; exact Eq.mp (by kernel_rfl) h
  · obtain ⟨x, rfl⟩ := list1 hl
    rcases ax (by omega) with rfl | rfl | rfl
    · rw [w_impl_Node_point_14_0 a _ u v w K]; exact Eq.mp (by kernel_rfl) h
    · rw [w_impl_Node_point_14_1 a _ u v w K]; exact Eq.mp (by kernel_rfl) h
    · rw [w_impl_Node_point_14_2 a _ u v w K]; exact Eq.mp (by kernel_rfl) h
  · rw [w_impl_Node_point_15 a c _ u v w K]; exact Eq.mp (by kernel_rfl) h
  · rw [w_impl_Node_point_16 a c _ u v w K]; exact Eq.mp (by kernel_rfl) h

end Go.Proofs.Ytfhpmcdbfebflaa

/- Distances of shapes: the recursion. -/
set_option linter.unusedVariables false
set_option linter.unusedSimpArgs false
set_option maxRecDepth 100000
namespace Go.Proofs.Ytfhpmcdbfebflaa
open Go.Ev Go.Ev.Fl

def nodeAt (ns : ShapeD) (i : Int) : NodeD := (ns[i.toNat]?).getD (0, 0, 0, [])
def distV : Nat → ShapeD → Int → V3 → Nat
  | 0, _, _, _ => 0
  | N + 1, ns, i, p =>
    bif inR (nodeAt ns i).1 0 4 then leafV (nodeAt ns i).1 (nodeAt ns i).2.2.2 p else
    bif inR (nodeAt ns i).1 5 8 then mixV (nodeAt ns i).1 (nodeAt ns i).2.2.2 (distV N ns (nodeAt ns i).2.1 p) (distV N ns (nodeAt ns i).2.2.1 p) else
    mixV (nodeAt ns i).1 (nodeAt ns i).2.2.2 (distV N ns (nodeAt ns i).2.1 (pointN (nodeAt ns i).1 (nodeAt ns i).2.2.1 (nodeAt ns i).2.2.2 p)) 0
def goodS (ns : ShapeD) : Bool := nodesB ns && ns.all (fun n => turnB n.1 n.2.2.2)

theorem good_at {ns : ShapeD} (h : goodS ns = true) {i : Int} (h0 : 0 ≤ i) (h1 : i < ns.length) : ns[i.toNat]? = some (nodeAt ns i) ∧ nodeB i (nodeAt ns i) = true ∧ turnB (nodeAt ns i).1 (nodeAt ns i).2.2.2 = true := by
  unfold goodS at h
  simp only [Bool.and_eq_true] at h
  obtain ⟨g1, g2⟩ := h
  have hl : i.toNat < ns.length := by omega
  have e : ns[i.toNat]? = some (ns[i.toNat]'hl) := get_lt hl
  have en : nodeAt ns i = ns[i.toNat]'hl := by unfold nodeAt; rw [e]; rfl
  refine ⟨by rw [e, en], ?_, by rw [en]; exact List.all_eq_true.1 g2 _ (List.getElem_mem hl)⟩
  have := List.all_eq_true.1 g1 i.toNat (by simpa using hl)
  rw [e] at this
  simp only at this
  rw [en]
  rwa [Int.toNat_of_nonneg h0] at this
theorem nodeB_parts {i k a c : Int} {xs : List Nat} (h : nodeB i (k, a, c, xs) = true) : numsB k xs = true ∧ axB k a c = true ∧ ∀ d ∈ kids k a c, 0 ≤ d ∧ d < i := by
  have hk := nodeB_kids h
  unfold nodeB at h
  simp only [Bool.and_eq_true] at h
  exact ⟨h.1, h.2.1, fun d hd => by have := hk d hd; omega⟩

noncomputable def sr_impl_Shape_distance (N : Nat) : Sm := semG [.ref tS, .cell tI, .agg tV] (fun x => match x with | (ns, i, p, _) => decide (i.toNat < N) && (goodS ns && (decide (0 ≤ i) && decide (i < ns.length)))) fun x => match x with | (ns, i, p, _) => .float .f32 (distV N ns i p)
noncomputable def c_impl_Shape_distance (N : Nat) : Ctx := mkC Try.prog tyT [(86, sr_impl_Shape_distance N), (83, s_impl_childrenOf), (139, s_impl_Node_leaf), (140, s_impl_Node_mix), (85, s_impl_Node_point)] [] [] 53 (fun _ => none) 0
theorem w_impl_Shape_distance (N : Nat) (ns : ShapeD) (i : Int) (p : V3) (K : V → Heap → Prop) : wpFn (c_impl_Shape_distance N) Try.f86 (encAs [.ref tS, .cell tI, .agg tV] (ns, i, p, ())) [] K =
  cond (decide (0 ≤ i))
    ((match ns[Int.toNat i]? with
      | some y0 => cond ((↑(List.length (kids (Prod.fst y0) (Prod.fst (Prod.snd y0)) (Prod.fst (Prod.snd (Prod.snd y0))))) : Int) == 0)
        (cond (numsB (Prod.fst y0) (Prod.snd (Prod.snd (Prod.snd y0))) && inR (Prod.fst y0) 0 4)
          (K (.float .f32 (leafV (Prod.fst y0) (Prod.snd (Prod.snd (Prod.snd y0))) p)) [])
          (False))
        (cond ((↑(List.length (kids (Prod.fst y0) (Prod.fst (Prod.snd y0)) (Prod.fst (Prod.snd (Prod.snd y0))))) : Int) == 1)
          (cond (numsB (Prod.fst y0) (Prod.snd (Prod.snd (Prod.snd y0))) && (inR (Prod.fst y0) 9 16 && (axB (Prod.fst y0) (Prod.fst (Prod.snd y0)) (Prod.fst (Prod.snd (Prod.snd y0))) && turnB (Prod.fst y0) (Prod.snd (Prod.snd (Prod.snd y0))))))
            (cond (decide (Int.toNat (Prod.fst (Prod.snd y0)) < N) && (goodS ns && (decide (0 ≤ Prod.fst (Prod.snd y0)) && decide (Prod.fst (Prod.snd y0) < (↑(List.length ns) : Int)))))
              (cond (numsB (Prod.fst y0) (Prod.snd (Prod.snd (Prod.snd y0))) && inR (Prod.fst y0) 5 16)
                (K (.float .f32 (mixV (Prod.fst y0) (Prod.snd (Prod.snd (Prod.snd y0))) (distV N ns (Prod.fst (Prod.snd y0)) (pointN (Prod.fst y0) (Prod.fst (Prod.snd (Prod.snd y0))) (Prod.snd (Prod.snd (Prod.snd y0))) p)) 0)) [])
                (False))
              (False))
            (False))
          (cond (decide (Int.toNat (Prod.fst (Prod.snd y0)) < N) && (goodS ns && (decide (0 ≤ Prod.fst (Prod.snd y0)) && decide (Prod.fst (Prod.snd y0) < (↑(List.length ns) : Int)))))
            (cond (decide (Int.toNat (Prod.fst (Prod.snd (Prod.snd y0))) < N) && (goodS ns && (decide (0 ≤ Prod.fst (Prod.snd (Prod.snd y0))) && decide (Prod.fst (Prod.snd (Prod.snd y0)) < (↑(List.length ns) : Int)))))
              (cond (numsB (Prod.fst y0) (Prod.snd (Prod.snd (Prod.snd y0))) && inR (Prod.fst y0) 5 16)
                (K (.float .f32 (mixV (Prod.fst y0) (Prod.snd (Prod.snd (Prod.snd y0))) (distV N ns (Prod.fst (Prod.snd y0)) p) (distV N ns (Prod.fst (Prod.snd (Prod.snd y0))) p))) [])
                (False))
              (False))
            (False)))
      | none => False))
    (False) := by kernel_rfl
theorem okr_impl_Shape_distance : ∀ N, FnOk Try.prog 86 (sr_impl_Shape_distance N)
| 0 => fnOk_never fun _ => rfl
| N + 1 => fnOk_typedG (fnOk_runC (C := c_impl_Shape_distance N) rfl mixed (.cons (okr_impl_Shape_distance N) (.cons ok_impl_childrenOf (.cons ok_impl_Node_leaf (.cons ok_impl_Node_mix (.cons ok_impl_Node_point .nil))))) .nil .nil Try.func86 (by kernel_rfl)) fun (x : ((ShapeD) × (Int) × (V3) × Unit)) wf hg K h => by
  obtain ⟨ns, i, p, ⟨⟩⟩ := x
  replace hg : (decide (i.toNat < (N + 1)) && (goodS ns && (decide (0 ≤ i) && decide (i < ns.length)))) = true := hg
  replace h : K (.float .f32 (distV (N + 1) ns i p)) [] := h
  rw [w_impl_Shape_distance N ns i p K]
  simp only [Bool.and_eq_true, decide_eq_true_eq] at hg
  obtain ⟨g3, g0, g1, g2⟩ := hg
  obtain ⟨e, hb, ht⟩ := good_at g0 g1 g2
  have hs : distV (N + 1) ns i p = bif inR (nodeAt ns i).1 0 4 then leafV (nodeAt ns i).1 (nodeAt ns i).2.2.2 p else
    bif inR (nodeAt ns i).1 5 8 then mixV (nodeAt ns i).1 (nodeAt ns i).2.2.2 (distV N ns (nodeAt ns i).2.1 p) (distV N ns (nodeAt ns i).2.2.1 p) else
    mixV (nodeAt ns i).1 (nodeAt ns i).2.2.2 (distV N ns (nodeAt ns i).2.1 (pointN (nodeAt ns i).1 (nodeAt ns i).2.2.1 (nodeAt ns i).2.2.2 p)) 0 := rfl
  rw [hs] at h
  generalize nodeAt ns i = n at *
  obtain ⟨k, a, c, xs⟩ := n
  obtain ⟨b1, b2, b3⟩ := nodeB_parts hb
  have hk := nums_isK b1
  simp only [d_t g1, e, cond_true]
  simp only at h ht
  rcases kind_cases a c hk with ⟨q1, q2, q3⟩ | ⟨q1, q2, q3⟩ | ⟨q1, q2, q3⟩ <;> rw [q3] at b3 ⊢ <;> simp only [q1, q2, cond_true, cond_false] at h
  · rw [b1, q1]; exact h
  · have k1 := b3 a (by simp)
    have k9 : inR k 9 16 = true := by
      have := inR_iff.1 (show inR k 0 16 = true from hk)
      have n1 : ¬ (0 ≤ k ∧ k ≤ 4) := fun e => by rw [inR_iff.2 e] at q1; cases q1
      have n2 : ¬ (5 ≤ k ∧ k ≤ 8) := fun e => by rw [inR_iff.2 e] at q2; cases q2
      exact inR_iff.2 (by omega)
    have k5 : inR k 5 16 = true := inR_iff.2 (by have := inR_iff.1 k9; omega)
    rw [b1, b2, ht, k9, k5, g0, d_t k1.1, d_t (show a < (ns.length : Int) by omega), d_t (show a.toNat < N by omega)]
    exact h
  · have k1 := b3 a (by simp)
    have k2 := b3 c (by simp)
    have k5 : inR k 5 16 = true := inR_iff.2 (by have := inR_iff.1 q2; omega)
    rw [b1, k5, g0, d_t k1.1, d_t (show a < (ns.length : Int) by omega), d_t (show a.toNat < N by omega), d_t k2.1, d_t (show c < (ns.length : Int) by omega), d_t (show c.toNat < N by omega)]
    exact h
noncomputable abbrev s_impl_Shape_distance : Sm := sr_impl_Shape_distance 17
theorem ok_impl_Shape_distance : FnOk Try.prog 86 s_impl_Shape_distance := okr_impl_Shape_distance 17

end Go.Proofs.Ytfhpmcdbfebflaa

/- Distances of shapes: the functions that ask for them. -/
set_option linter.unusedVariables false
set_option linter.unusedSimpArgs false
set_option maxRecDepth 100000
namespace Go.Proofs.Ytfhpmcdbfebflaa
open Go.Ev Go.Ev.Fl

theorem valid_leng {s : ShapeD} (h : validS s = true) : 1 ≤ s.length ∧ s.length ≤ 16 := by
  unfold validS at h
  simp only [Bool.and_eq_true] at h
  have := inR_iff.1 h.1
  omega
theorem valid_nodes {s : ShapeD} (h : validS s = true) : nodesB s = true := by
  unfold validS at h
  simp only [Bool.and_eq_true] at h
  exact h.2.1
def turnsB (ns : ShapeD) : Bool := ns.all (fun n => turnB n.1 n.2.2.2)
def okS (ns : ShapeD) : Bool := validS ns && turnsB ns
theorem okS_good {s : ShapeD} (h : okS s = true) : goodS s = true ∧ validS s = true ∧ 1 ≤ s.length ∧ s.length ≤ 16 := by
  unfold okS at h
  simp only [Bool.and_eq_true] at h
  refine ⟨?_, h.1, valid_leng h.1⟩
  unfold goodS
  rw [valid_nodes h.1]
  exact h.2
def disV (ns : ShapeD) (p : V3) : Nat := distV 17 ns (ns.length - 1) p

noncomputable def c_impl_Shape_last : Ctx := mkC Try.prog tyT [] [] [] 9 (fun _ => none) 0
theorem w_impl_Shape_last (s : ShapeD) (K : V → Heap → Prop) : wpFn c_impl_Shape_last Try.f84 (encAs [.ref tS] (s, ())) [] K =
 K (.int .i64 (IntKind.wrap IntKind.i64 ((↑(List.length s) : Int) - 1))) [] := by kernel_rfl
noncomputable def s_impl_Shape_last : Sm := semT [.ref tS] fun x => match x with | (s, _) => .int .i64 (IntKind.i64.wrap ((s.length : Int) - 1))
theorem ok_impl_Shape_last : FnOk Try.prog 84 s_impl_Shape_last := fnOk_typed (fnOk_runC (C := c_impl_Shape_last) rfl mixed .nil .nil .nil Try.func84 (by kernel_rfl)) fun (x : ((ShapeD) × Unit)) wf K h => by
  obtain ⟨s, ⟨⟩⟩ := x
  replace h : K (.int .i64 (IntKind.i64.wrap ((s.length : Int) - 1))) [] := h
  rw [w_impl_Shape_last s K]
  exact h

noncomputable def c_impl_Shape_at : Ctx := mkC Try.prog tyT [(84, s_impl_Shape_last), (86, s_impl_Shape_distance)] [] [] 10 (fun _ => none) 0
theorem w_impl_Shape_at (ns : ShapeD) (p : V3) (K : V → Heap → Prop) : wpFn c_impl_Shape_at Try.f73 (encAs [.ref tS, .agg tV] (ns, p, ())) [] K =
 cond (decide (Int.toNat (IntKind.wrap IntKind.i64 ((↑(List.length ns) : Int) - 1)) < 17) && (goodS ns && (decide (0 ≤ IntKind.wrap IntKind.i64 ((↑(List.length ns) : Int) - 1)) && decide (IntKind.wrap IntKind.i64 ((↑(List.length ns) : Int) - 1) < (↑(List.length ns) : Int)))))
 (K (.float .f32 (distV 17 ns (IntKind.wrap IntKind.i64 ((↑(List.length ns) : Int) - 1)) p)) [])
 (False) := by kernel_rfl
noncomputable def s_impl_Shape_at : Sm := semG [.ref tS, .agg tV] (fun x => match x with | (ns, p, _) => okS ns) fun x => match x with | (ns, p, _) => .float .f32 (disV ns p)
theorem ok_impl_Shape_at : FnOk Try.prog 73 s_impl_Shape_at := fnOk_typedG (fnOk_runC (C := c_impl_Shape_at) rfl mixed (.cons ok_impl_Shape_last (.cons ok_impl_Shape_distance .nil)) .nil .nil Try.func73 (by kernel_rfl)) fun (x : ((ShapeD) × (V3) × Unit)) wf hg K h => by
  obtain ⟨ns, p, ⟨⟩⟩ := x
  replace hg : (okS ns) = true := hg
  replace h : K (.float .f32 (disV ns p)) [] := h
  rw [w_impl_Shape_at ns p K]
  obtain ⟨g1, g2, g3, g4⟩ := okS_good hg
  have e : IntKind.i64.wrap ((ns.length : Int) - 1) = (ns.length : Int) - 1 := i64_of (by omega) (by omega)
  rw [e, g1, d_t (show ((ns.length : Int) - 1).toNat < 17 by omega), d_t (show 0 ≤ (ns.length : Int) - 1 by omega), d_t (show (ns.length : Int) - 1 < ns.length by omega)]
  exact h

noncomputable def c_impl_DistanceAt : Ctx := mkC Try.prog tyT [(33, s_impl_ValidShape), (73, s_impl_Shape_at)] [] [] 11 (fun _ => none) 0
theorem w_impl_DistanceAt (ns : ShapeD) (p : V3) (K : V → Heap → Prop) : wpFn c_impl_DistanceAt Try.f18 (encAs [.agg tS, .agg tV] (ns, p, ())) [] K =
 cond (!validS ns)
 (K (.tuple [(.float .f32 0), (.bool false)]) [])
 (cond (okS ns)
 (K (.tuple [(.float .f32 (disV ns p)), (.bool true)]) [])
 (False)) := by kernel_rfl
noncomputable def s_impl_DistanceAt : Sm := semG [.agg tS, .agg tV] (fun x => match x with | (ns, p, _) => okS ns) fun x => match x with | (ns, p, _) => .tuple [.float .f32 (disV ns p), .bool true]
theorem ok_impl_DistanceAt : FnOk Try.prog 18 s_impl_DistanceAt := fnOk_typedG (fnOk_runC (C := c_impl_DistanceAt) rfl mixed (.cons ok_impl_ValidShape (.cons ok_impl_Shape_at .nil)) .nil .nil Try.func18 (by kernel_rfl)) fun (x : ((ShapeD) × (V3) × Unit)) wf hg K h => by
  obtain ⟨ns, p, ⟨⟩⟩ := x
  replace hg : (okS ns) = true := hg
  replace h : K (.tuple [.float .f32 (disV ns p), .bool true]) [] := h
  rw [w_impl_DistanceAt ns p K]
  obtain ⟨g1, g2, g3, g4⟩ := okS_good hg
  rw [g2, hg]
  exact h

noncomputable def c_impl_IsInside : Ctx := mkC Try.prog tyT [(33, s_impl_ValidShape), (73, s_impl_Shape_at)] [] [] 12 (fun _ => none) 0
theorem w_impl_IsInside (ns : ShapeD) (p : V3) (K : V → Heap → Prop) : wpFn c_impl_IsInside Try.f36 (encAs [.agg tS, .agg tV] (ns, p, ())) [] K =
 cond (validS ns)
 (cond (okS ns)
 (K (.bool (flt FloatKind.f32 (disV ns p) 0)) [])
 (False))
 (K (.bool false) []) := by kernel_rfl
noncomputable def s_impl_IsInside : Sm := semG [.agg tS, .agg tV] (fun x => match x with | (ns, p, _) => okS ns) fun x => match x with | (ns, p, _) => .bool (flt .f32 (disV ns p) 0)
theorem ok_impl_IsInside : FnOk Try.prog 36 s_impl_IsInside := fnOk_typedG (fnOk_runC (C := c_impl_IsInside) rfl mixed (.cons ok_impl_ValidShape (.cons ok_impl_Shape_at .nil)) .nil .nil Try.func36 (by kernel_rfl)) fun (x : ((ShapeD) × (V3) × Unit)) wf hg K h => by
  obtain ⟨ns, p, ⟨⟩⟩ := x
  replace hg : (okS ns) = true := hg
  replace h : K (.bool (flt .f32 (disV ns p) 0)) [] := h
  rw [w_impl_IsInside ns p K]
  obtain ⟨g1, g2, g3, g4⟩ := okS_good hg
  rw [g2, hg]
  exact h

end Go.Proofs.Ytfhpmcdbfebflaa

/- Rays, factors and marches: walks. -/
set_option linter.unusedVariables false
set_option linter.unusedSimpArgs false
set_option maxRecDepth 100000
namespace Go.Proofs.Ytfhpmcdbfebflaa
open Go.Ev Go.Ev.Fl

end Go.Proofs.Ytfhpmcdbfebflaa

/- Plain: the numbers of turns in drawn shapes; shapes with nodes that change nothing; rays and marches. -/
set_option linter.unusedVariables false
set_option linter.unusedSimpArgs false
set_option maxRecDepth 100000
namespace Go.Proofs.Ytfhpmcdbfebflaa
open Go.Ev Go.Ev.Fl

theorem tab_sine : (List.range 17).all (fun j => sineOk (sixtV (Int.ofNat j - 8)) && sineOk (fsub .f32 1048576000 (sixtV (Int.ofNat j - 8)))) = true := by decide +kernel
theorem turn_ok {n : Int} (h : 0 ≤ n ∧ n < 17) : (sineOk (sixtV (n - 8)) && sineOk (fsub .f32 1048576000 (sixtV (n - 8)))) = true := by
  have := List.all_eq_true.1 tab_sine n.toNat (by simp; omega)
  have e : Int.ofNat n.toNat = n := Int.toNat_of_nonneg h.1
  rw [e] at this
  exact this
theorem turn_not {k : Int} (h : k ≠ 12) (xs : List Nat) : turnB k xs = true := by
  unfold turnB
  rw [beq_eq_false_iff_ne.2 h]
  rfl
theorem turn_nums (k : Int) {s : SrcD} (hb : bytes s.1) : turnB k (numsV k s) = true := by
  by_cases e : k = 12
  · subst e
    exact turn_ok (pickV_range (s := smallS s) ((far_small s).bytes hb) (n := 17) (by omega))
  · exact turn_not e _
theorem turns_iff {ns : ShapeD} : turnsB ns = true ↔ ∀ n ∈ ns, turnB n.1 n.2.2.2 = true := List.all_eq_true
theorem turns_snoc {ns : ShapeD} {n : NodeD} (h : turnsB ns = true) (hn : turnB n.1 n.2.2.2 = true) : turnsB (ns ++ [n]) = true := by
  rw [turns_iff] at h ⊢
  intro m hm
  rcases List.mem_append.1 hm with h1 | h1
  · exact h m h1
  · rw [List.mem_singleton.1 h1]; exact hn
theorem turns_shGo : ∀ (m : Nat) (q : ShD), turnsB q.1 = true → bytes q.2.2.1 → turnsB (shGo m q).1 = true
  | 0, _, h, _ => h
  | m + 1, q, h, hb => turns_shGo m (shStep q) (turns_snoc h (turn_nums _ ((far_T _ _).bytes hb))) ((far_node _ _).bytes hb)
theorem turns_clGo : ∀ (m : Nat) (q : ShD), turnsB q.1 = true → bytes q.2.2.1 → turnsB (clGo m q).1 = true
  | 0, _, h, _ => h
  | m + 1, q, h, hb => turns_clGo m (clStep q) (turns_snoc h (turn_not (by
      have r := pickV_range (s := q.2.2) hb (n := 3) (by omega)
      show 5 + pickV q.2.2 3 ≠ 12
      omega) _)) ((far_pick _ _).bytes hb)
theorem shape_okS {s : SrcD} (hb : bytes s.1) : okS (shapeV s) = true := by
  unfold okS
  rw [shape_ok hb, Bool.true_and]
  have h0 := sh0_ok hb
  have h1 := turns_shGo (1 + pickV s 7).toNat (sh0 s) rfl h0.b
  exact turns_clGo _ _ h1 (shGo_ok _ h0).b
theorem shape_stack {s : SrcD} (hb : bytes s.1) : Stack (shapeV s) [((shapeV s).length : Int) - 1] ∧ 1 ≤ (shapeV s).length := by
  obtain ⟨n, e, n1, n2, h, f1, f2⟩ := sh1_ok hb
  obtain ⟨h2, h3⟩ := clGo_ok ((sh1 s).2.1.length - 1) h (by omega)
  obtain ⟨r, hr⟩ := List.length_eq_one_iff.1 h3
  have hs := h2.st
  rw [hr] at hs
  have hl := h2.l
  have hne : (clGo ((sh1 s).2.1.length - 1) (sh1 s)).1 ≠ [] := fun e => by rw [e] at hl; simp at hl; omega
  have := hs.last hne
  have e2 : r = ((clGo ((sh1 s).2.1.length - 1) (sh1 s)).1.length : Int) - 1 := by simpa using this
  rw [e2] at hs
  exact ⟨hs, by show 1 ≤ (clGo ((sh1 s).2.1.length - 1) (sh1 s)).1.length; omega⟩

def exK : List Int := [9, 10, 11, 15]
def exKind (s : SrcD) : Int := (exK[(pickV s 4).toNat]?).getD 0
def exVal (k v : Int) : Nat := bif k == 10 || k == 11 then fadd .f32 (FloatKind.f32.nearest v) 1065353216 else FloatKind.f32.nearest v
abbrev ExD := ShapeD × SrcD
def exGoes (q : ExD) : Bool := decide (q.1.length < 16) && pickV q.2 2 == 0
def exAfter (q : ExD) : SrcD := bif decide (q.1.length < 16) then pickS q.2 2 else q.2
def exN (q : ExD) : NodeD := (exKind (pickS q.2 2), (q.1.length : Int) - 1, 0, List.replicate (kindN (exKind (pickS q.2 2))).toNat (exVal (exKind (pickS q.2 2)) (pickV (pickS (pickS q.2 2) 4) 2)))
def exStep (q : ExD) : ExD := (q.1 ++ [exN q], pickS (pickS (pickS q.2 2) 4) 2)
def exGo : Nat → ExD → ExD
  | 0, q => q
  | n + 1, q => bif exGoes q then exGo n (exStep q) else (q.1, exAfter q)
def ex0 (s : SrcD) : ExD := (shapeV s, shapeS s)
def exV (s : SrcD) : ShapeD := (exGo 16 (ex0 s)).1
def exS (s : SrcD) : SrcD := (exGo 16 (ex0 s)).2
structure ExOk (q : ExD) : Prop where
  st : Stack q.1 [(q.1.length : Int) - 1]
  b : bytes q.2.1
  lo : 1 ≤ q.1.length
  hi : q.1.length ≤ 16
  t : turnsB q.1 = true
theorem exKind_in {s : SrcD} (hb : bytes s.1) : exKind s = 9 ∨ exKind s = 10 ∨ exKind s = 11 ∨ exKind s = 15 := by
  have r := pickV_range (s := s) hb (n := 4) (by omega)
  unfold exKind
  rcases (by omega : (pickV s 4).toNat = 0 ∨ (pickV s 4).toNat = 1 ∨ (pickV s 4).toNat = 2 ∨ (pickV s 4).toNat = 3) with e | e | e | e <;> rw [e] <;> decide
theorem tab_ex : ([9, 10, 11, 15] : List Int).all (fun k => ([0, 1] : List Int).all fun v => numsB k (List.replicate (kindN k).toNat (exVal k v))) = true := by decide +kernel
theorem exN_ok {q : ExD} (h : ExOk q) : nodeB q.1.length (exN q) = true ∧ kidsN (exN q) = [(q.1.length : Int) - 1] ∧ turnB (exN q).1 (exN q).2.2.2 = true := by
  have b1 := (far_pick q.2 2).bytes h.b
  have b2 := (far_pick (pickS q.2 2) 4).bytes b1
  have hk := exKind_in b1
  have r := pickV_range b2 (n := 2) (by omega)
  have hv : pickV (pickS (pickS q.2 2) 4) 2 = 0 ∨ pickV (pickS (pickS q.2 2) 4) 2 = 1 := by omega
  have lo := h.lo
  unfold exN
  generalize exKind (pickS q.2 2) = k at *
  generalize pickV (pickS (pickS q.2 2) 4) 2 = v at *
  have hn : numsB k (List.replicate (kindN k).toNat (exVal k v)) = true := by
    have t1 := List.all_eq_true.1 tab_ex k (by rcases hk with e | e | e | e <;> rw [e] <;> decide)
    exact List.all_eq_true.1 t1 v (by rcases hv with e | e <;> rw [e] <;> decide)
  have hkid : kids k ((q.1.length : Int) - 1) 0 = [(q.1.length : Int) - 1] := by rcases hk with e | e | e | e <;> subst e <;> rfl
  have hax : axB k ((q.1.length : Int) - 1) 0 = true := by
    unfold axB
    have hc : decide (kindC k > 0) = true := by rcases hk with e | e | e | e <;> subst e <;> rfl
    have hc2 : (kindC k == 2) = false := by rcases hk with e | e | e | e <;> subst e <;> rfl
    rw [hc, hc2]
    rfl
  refine ⟨?_, hkid, turn_not (by omega) _⟩
  unfold nodeB
  simp only
  rw [hn, hax, show kidsN (k, (q.1.length : Int) - 1, 0, List.replicate (kindN k).toNat (exVal k v)) = [(q.1.length : Int) - 1] from hkid]
  simp only [List.all_cons, List.all_nil, Bool.and_true, Bool.true_and]
  exact inR_iff.2 (by omega)
theorem exStep_ok {q : ExD} (h : ExOk q) (hl : q.1.length < 16) : ExOk (exStep q) := by
  obtain ⟨h1, h2, h3⟩ := exN_ok h
  have hlen : (exStep q).1.length = q.1.length + 1 := by show (q.1 ++ [_]).length = _; simp
  refine ⟨?_, (far_pick _ 2).bytes ((far_pick _ 4).bytes ((far_pick _ 2).bytes h.b)), by omega, by omega, turns_snoc h.t h3⟩
  rw [hlen, show ((q.1.length + 1 : Nat) : Int) - 1 = (q.1.length : Int) by omega]
  have := h.st.push (rest := []) (by rw [h2]; rfl) h1
  exact this
theorem exGo_ok : ∀ (n : Nat) {q : ExD}, ExOk q → ExOk (exGo n q)
  | 0, _, h => h
  | n + 1, q, h => by
    have hs : exGo (n + 1) q = bif exGoes q then exGo n (exStep q) else (q.1, exAfter q) := rfl
    rw [hs]
    cases e : exGoes q with
    | true =>
      unfold exGoes at e
      simp only [Bool.and_eq_true, decide_eq_true_eq] at e
      exact exGo_ok n (exStep_ok h e.1)
    | false =>
      refine ⟨h.st, ?_, h.lo, h.hi, h.t⟩
      show bytes (exAfter q).1
      unfold exAfter
      cases decide (q.1.length < 16)
      · exact h.b
      · exact (far_pick q.2 2).bytes h.b
theorem ex0_ok {s : SrcD} (hb : bytes s.1) : ExOk (ex0 s) := by
  obtain ⟨h1, h2⟩ := shape_stack hb
  have h3 := shape_okS hb
  obtain ⟨g1, g2, g3, g4⟩ := okS_good h3
  unfold okS at h3
  simp only [Bool.and_eq_true] at h3
  exact ⟨h1, (far_shape hb).bytes hb, h2, g4, h3.2⟩
theorem ex_okS {s : SrcD} (hb : bytes s.1) : okS (exV s) = true := by
  have h := exGo_ok 16 (ex0_ok hb)
  unfold okS
  rw [show validS (exV s) = true from h.st.valid h.lo h.hi, show turnsB (exV s) = true from h.t]
  rfl

end Go.Proofs.Ytfhpmcdbfebflaa

/- What the laws draw: shapes with nodes that change nothing, rays, marches: walks. -/
set_option linter.unusedVariables false
set_option linter.unusedSimpArgs false
set_option maxRecDepth 100000
namespace Go.Proofs.Ytfhpmcdbfebflaa
open Go.Ev Go.Ev.Fl

noncomputable def a_spec_l05DrawShape : Nat → Option Ann := fun n => bif Nat.beq n 2 then some ⟨[0,2,3],1,true⟩ else bif Nat.beq n 8 then some ⟨[0,2,3,4,5,6],1,true⟩ else none
noncomputable def c_spec_l05DrawShape : Ctx := mkC Try.prog tyT [(129, s_spec_l02Count)] [] [(82, s_spec_l02DrawOk), (127, s_spec_l00Src_one), (70, s_spec_l00Src_pick)] 58 a_spec_l05DrawShape 1 false [] false true true [(128, s_spec_l00Src_among)]
noncomputable def gp_spec_l05DrawShape : List (List (Option Ty)) := List.map giveR [.agg [.own tN]]
noncomputable def fr_spec_l05DrawShape_2 (s : SrcD) (ns : List NodeD) : Fr := [(0, .ptr 0 0), (2, .ptr 1 0), (3, .ptr 2 0)]
noncomputable def hp_spec_l05DrawShape_2 (s : SrcD) (ns : List NodeD) : Heap := [.box (enc tSrc s), .box [.nils], .box [.obj 3 0], .sl 0 tN ns]
theorem r_spec_l05DrawShape_2 (s : SrcD) (ns : List NodeD) (Kn : Fr → Heap → Prop) (K : V → Heap → Prop) : round c_spec_l05DrawShape ⟨[0,2,3],1,true⟩ (lb c_spec_l05DrawShape 2 Try.f68) (fr_spec_l05DrawShape_2 s ns) (hp_spec_l05DrawShape_2 s ns) Kn (lkG gp_spec_l05DrawShape c_spec_l05DrawShape 2 Try.f68 [.box []] K) =
 cond (decide ((↑(List.length ns) : Int) < 16))
 (cond (srcIn 6 s)
 (cond (pickV s 2 == 0)
 (cond (srcIn 6 (pickS s 2) && decide (1 ≤ 4))
 (cond (srcIn 6 (pickS (pickS s 2) (↑4 : Int)))
 (cond (Option.getD [(9 : Int), (10 : Int), (11 : Int), (15 : Int)][Int.toNat (pickV (pickS s (2 : Int)) (↑(4 : Nat) : Int))]? (0 : Int) == (10 : Int))
 (LoopE c_spec_l05DrawShape ⟨[0, 2, 3, 4, 5, 6], 1, true⟩ (pathB c_spec_l05DrawShape [2, 8] (bodyOf Try.f68)) [(0, (.ptr 0 0)), (2, (.ptr 1 0)), (3, (.ptr 2 0)), (4, (.ptr 3 0)), (5, (.float .f32 (fadd FloatKind.f32 (FloatKind.nearest FloatKind.f32 (pickV (pickS (pickS s 2) (↑4 : Int)) 2)) 1065353216))), (6, (.int .i64 (kindN (Option.getD [(9 : Int), (10 : Int), (11 : Int), (15 : Int)][Int.toNat (pickV (pickS s (2 : Int)) (↑(4 : Nat) : Int))]? (0 : Int)))))] [(.box [(.vec (.int .u8) (Prod.fst (pickS (pickS (pickS s 2) (↑4 : Int)) 2))), (.int .i64 (Prod.fst (Prod.snd (pickS (pickS (pickS s 2) (↑4 : Int)) 2)))), (.int .u64 (Prod.snd (Prod.snd (pickS (pickS (pickS s 2) (↑4 : Int)) 2))))]), (.box [.nils]), (.box [(.obj 4 0)]), (.box [(.int .i64 (Option.getD [(9 : Int), (10 : Int), (11 : Int), (15 : Int)][Int.toNat (pickV (pickS s (2 : Int)) (↑(4 : Nat) : Int))]? (0 : Int))), (.int .i64 (IntKind.wrap IntKind.i64 ((↑(List.length ns) : Int) - 1))), (.int .i64 0), .nils]), (.sl 0 tN (ns))] (pathK c_spec_l05DrawShape [(2, ⟨[0,2,3],1,true⟩, Kn)] 8 (bodyOf Try.f68) (kFnG gp_spec_l05DrawShape c_spec_l05DrawShape Try.f68 [.box []] K)))
 (cond (Option.getD [(9 : Int), (10 : Int), (11 : Int), (15 : Int)][Int.toNat (pickV (pickS s (2 : Int)) (↑(4 : Nat) : Int))]? (0 : Int) == (11 : Int))
 (LoopE c_spec_l05DrawShape ⟨[0, 2, 3, 4, 5, 6], 1, true⟩ (pathB c_spec_l05DrawShape [2, 8] (bodyOf Try.f68)) [(0, (.ptr 0 0)), (2, (.ptr 1 0)), (3, (.ptr 2 0)), (4, (.ptr 3 0)), (5, (.float .f32 (fadd FloatKind.f32 (FloatKind.nearest FloatKind.f32 (pickV (pickS (pickS s 2) (↑4 : Int)) 2)) 1065353216))), (6, (.int .i64 (kindN (Option.getD [(9 : Int), (10 : Int), (11 : Int), (15 : Int)][Int.toNat (pickV (pickS s (2 : Int)) (↑(4 : Nat) : Int))]? (0 : Int)))))] [(.box [(.vec (.int .u8) (Prod.fst (pickS (pickS (pickS s 2) (↑4 : Int)) 2))), (.int .i64 (Prod.fst (Prod.snd (pickS (pickS (pickS s 2) (↑4 : Int)) 2)))), (.int .u64 (Prod.snd (Prod.snd (pickS (pickS (pickS s 2) (↑4 : Int)) 2))))]), (.box [.nils]), (.box [(.obj 4 0)]), (.box [(.int .i64 (Option.getD [(9 : Int), (10 : Int), (11 : Int), (15 : Int)][Int.toNat (pickV (pickS s (2 : Int)) (↑(4 : Nat) : Int))]? (0 : Int))), (.int .i64 (IntKind.wrap IntKind.i64 ((↑(List.length ns) : Int) - 1))), (.int .i64 0), .nils]), (.sl 0 tN (ns))] (pathK c_spec_l05DrawShape [(2, ⟨[0,2,3],1,true⟩, Kn)] 8 (bodyOf Try.f68) (kFnG gp_spec_l05DrawShape c_spec_l05DrawShape Try.f68 [.box []] K)))
 (LoopE c_spec_l05DrawShape ⟨[0, 2, 3, 4, 5, 6], 1, true⟩ (pathB c_spec_l05DrawShape [2, 8] (bodyOf Try.f68)) [(0, (.ptr 0 0)), (2, (.ptr 1 0)), (3, (.ptr 2 0)), (4, (.ptr 3 0)), (5, (.float .f32 (FloatKind.nearest FloatKind.f32 (pickV (pickS (pickS s 2) (↑4 : Int)) 2)))), (6, (.int .i64 (kindN (Option.getD [(9 : Int), (10 : Int), (11 : Int), (15 : Int)][Int.toNat (pickV (pickS s (2 : Int)) (↑(4 : Nat) : Int))]? (0 : Int)))))] [(.box [(.vec (.int .u8) (Prod.fst (pickS (pickS (pickS s 2) (↑4 : Int)) 2))), (.int .i64 (Prod.fst (Prod.snd (pickS (pickS (pickS s 2) (↑4 : Int)) 2)))), (.int .u64 (Prod.snd (Prod.snd (pickS (pickS (pickS s 2) (↑4 : Int)) 2))))]), (.box [.nils]), (.box [(.obj 4 0)]), (.box [(.int .i64 (Option.getD [(9 : Int), (10 : Int), (11 : Int), (15 : Int)][Int.toNat (pickV (pickS s (2 : Int)) (↑(4 : Nat) : Int))]? (0 : Int))), (.int .i64 (IntKind.wrap IntKind.i64 ((↑(List.length ns) : Int) - 1))), (.int .i64 0), .nils]), (.sl 0 tN (ns))] (pathK c_spec_l05DrawShape [(2, ⟨[0,2,3],1,true⟩, Kn)] 8 (bodyOf Try.f68) (kFnG gp_spec_l05DrawShape c_spec_l05DrawShape Try.f68 [.box []] K)))))
 (False))
 (False))
 (K (.agg [(.obj 1 0)]) [(.box [(.vec (.int .u8) (Prod.fst (pickS s 2))), (.int .i64 (Prod.fst (Prod.snd (pickS s 2)))), (.int .u64 (Prod.snd (Prod.snd (pickS s 2))))]), (.sl 0 tN (ns))]))
 (False))
 (K (.agg [(.obj 1 0)]) [(.box [(.vec (.int .u8) (Prod.fst s)), (.int .i64 (Prod.fst (Prod.snd s))), (.int .u64 (Prod.snd (Prod.snd s)))]), (.sl 0 tN (ns))]) := by kernel_rfl
noncomputable def fr_spec_l05DrawShape_8 (s : SrcD) (ns : List NodeD) (k a : Int) (v : Nat) (xs : List Nat) (c m : Int) : Fr := [(0, .ptr 0 0), (2, .ptr 1 0), (3, .ptr 2 0), (4, .ptr 3 0), (5, .float .f32 v), (6, .int .i64 c)]
noncomputable def hp_spec_l05DrawShape_8 (s : SrcD) (ns : List NodeD) (k a : Int) (v : Nat) (xs : List Nat) (c m : Int) : Heap := (match m with | 0 => [.box (enc tSrc s), .box [.nils], .box [.obj 4 0], .box [.int .i64 k, .int .i64 a, .int .i64 0, .nils], .sl 0 tN ns] | _ => [.box (enc tSrc s), .box [.nils], .box [.obj 4 0], .box [.int .i64 k, .int .i64 a, .int .i64 0, .obj 5 0], .sl 0 tN ns, .sl 0 tF xs])
theorem r_spec_l05DrawShape_8_0 (s : SrcD) (ns : List NodeD) (k a : Int) (v : Nat) (xs : List Nat) (c : Int) (Kn2 : Fr → Heap → Prop) (Kn : Fr → Heap → Prop) (K : V → Heap → Prop) : round c_spec_l05DrawShape ⟨[0,2,3,4,5,6],1,true⟩ (pathB c_spec_l05DrawShape [2, 8] (bodyOf Try.f68)) (fr_spec_l05DrawShape_8 s ns k a v xs c (0 : Int)) (hp_spec_l05DrawShape_8 s ns k a v xs c (0 : Int)) Kn (pathK c_spec_l05DrawShape [(2, ⟨[0,2,3],1,true⟩, Kn2)] 8 (bodyOf Try.f68) (kFnG gp_spec_l05DrawShape c_spec_l05DrawShape Try.f68 [.box []] K)) =
 cond (decide (c > 0))
 (Kn [(0, (.ptr 0 0)), (2, (.ptr 1 0)), (3, (.ptr 2 0)), (4, (.ptr 3 0)), (5, (.float .f32 (v))), (6, (.int .i64 (IntKind.wrap IntKind.i64 (c - 1))))] [(.box [(.vec (.int .u8) (Prod.fst s)), (.int .i64 (Prod.fst (Prod.snd s))), (.int .u64 (Prod.snd (Prod.snd s)))]), (.box [.nils]), (.box [(.obj 4 0)]), (.box [(.int .i64 (k)), (.int .i64 (a)), (.int .i64 0), (.obj 5 0)]), (.sl 0 tN (ns)), (.sl 0 (.float .f32) ([v]))])
 (cond (decide ((List.length ns + 1) * 48 ≤ 140737488355328))
 (Kn2 [(0, (.ptr 0 0)), (2, (.ptr 1 0)), (3, (.ptr 2 0))] [(.box [(.vec (.int .u8) (Prod.fst s)), (.int .i64 (Prod.fst (Prod.snd s))), (.int .u64 (Prod.snd (Prod.snd s)))]), (.box [.nils]), (.box [(.obj 3 0)]), (.sl 0 tN (ns ++ [(k, a, (0 : Int), [])]))])
 (False)) := by kernel_rfl
theorem r_spec_l05DrawShape_8_1 (s : SrcD) (ns : List NodeD) (k a : Int) (v : Nat) (xs : List Nat) (c : Int) (Kn2 : Fr → Heap → Prop) (Kn : Fr → Heap → Prop) (K : V → Heap → Prop) : round c_spec_l05DrawShape ⟨[0,2,3,4,5,6],1,true⟩ (pathB c_spec_l05DrawShape [2, 8] (bodyOf Try.f68)) (fr_spec_l05DrawShape_8 s ns k a v xs c (1 : Int)) (hp_spec_l05DrawShape_8 s ns k a v xs c (1 : Int)) Kn (pathK c_spec_l05DrawShape [(2, ⟨[0,2,3],1,true⟩, Kn2)] 8 (bodyOf Try.f68) (kFnG gp_spec_l05DrawShape c_spec_l05DrawShape Try.f68 [.box []] K)) =
 cond (decide (c > 0))
 (cond (decide ((List.length xs + 1) * 4 ≤ 140737488355328))
 (Kn [(0, (.ptr 0 0)), (2, (.ptr 1 0)), (3, (.ptr 2 0)), (4, (.ptr 3 0)), (5, (.float .f32 (v))), (6, (.int .i64 (IntKind.wrap IntKind.i64 (c - 1))))] [(.box [(.vec (.int .u8) (Prod.fst s)), (.int .i64 (Prod.fst (Prod.snd s))), (.int .u64 (Prod.snd (Prod.snd s)))]), (.box [.nils]), (.box [(.obj 4 0)]), (.box [(.int .i64 (k)), (.int .i64 (a)), (.int .i64 0), (.obj 5 0)]), (.sl 0 tN (ns)), (.sl 0 (.float .f32) (xs ++ [v]))])
 (False))
 (cond (decide ((List.length ns + 1) * 48 ≤ 140737488355328))
 (Kn2 [(0, (.ptr 0 0)), (2, (.ptr 1 0)), (3, (.ptr 2 0))] [(.box [(.vec (.int .u8) (Prod.fst s)), (.int .i64 (Prod.fst (Prod.snd s))), (.int .u64 (Prod.snd (Prod.snd s)))]), (.box [.nils]), (.box [(.obj 3 0)]), (.sl 0 tN (ns ++ [(k, a, (0 : Int), xs)]))])
 (False)) := by kernel_rfl
theorem w_spec_l05DrawShape (s : SrcD) (K : V → Heap → Prop) : wpFnG gp_spec_l05DrawShape c_spec_l05DrawShape Try.f68 (.ptr 0 0 :: encAs [] ()) [.box (enc tSrc s)] K =
 cond (inS 500000 s)
 (LoopE c_spec_l05DrawShape ⟨[0, 2, 3], 1, true⟩ (lb c_spec_l05DrawShape 2 Try.f68) [(0, (.ptr 0 0)), (2, (.ptr 1 0)), (3, (.ptr 2 0))] [(.box [(.vec (.int .u8) (Prod.fst (shapeS s))), (.int .i64 (Prod.fst (Prod.snd (shapeS s)))), (.int .u64 (Prod.snd (Prod.snd (shapeS s))))]), (.box [.nils]), (.box [(.obj 3 0)]), (.sl 0 tN (shapeV s))] (lkG gp_spec_l05DrawShape c_spec_l05DrawShape 2 Try.f68 [.box []] K))
 (False) := by kernel_rfl
noncomputable def s_spec_l05DrawShape : Sm := semPG tSrc [] [.agg [.own tN]] (fun s x => match x with | _ => inS 300000 s) fun s x => match x with | _ => (((exV s, ()), ()), exS s)
theorem ok_spec_l05DrawShape : FnOkL Try.prog 68 s_spec_l05DrawShape := fnOkO_boxg (fnOkO_runG (C := c_spec_l05DrawShape) gp_spec_l05DrawShape rfl mixed (.cons ok_spec_l02Count .nil) .nil (.cons ok_spec_l02DrawOk (.cons ok_spec_l00Src_one (.cons ok_spec_l00Src_pick .nil))) Try.func68 (by kernel_rfl) (h5 := (.cons ok_spec_l00Src_among (by first | exact semP_localE _ _ _ _ | exact semPG_localE _ _ _ _ _ | exact semV_localE _ _ _ _) .nil))) rfl fun (s : SrcD) (x : Unit) ws wf hg K h => by
  obtain ⟨⟩ := x
  replace hg : (inS 300000 s) = true := hg
  replace h : K (tup (valRs [.agg [.own tN]] (((exV s, ()), ())) 1)) (.box (enc tSrc (exS s)) :: thRs [.agg [.own tN]] (((exV s, ()), ()))) := h
  rw [w_spec_l05DrawShape s  K]
  have hb : bytes s.1 := bytes_of ws.1
  have g5 : inS 500000 s = true := (Far.refl s).ok hg (by omega)
  have o0 := ex0_ok hb
  rw [g5, cond_true]
  unfold exV exS at h
  refine loop_run (σ := Nat × ExD) (fun r => fr_spec_l05DrawShape_2 s []) (fun r => hp_spec_l05DrawShape_2 r.2.2 r.2.1) (fun r => ExOk r.2 ∧ 17 ≤ r.2.1.length + r.1 ∧ r.1 ≤ 16 ∧ Far s r.2.2 (210 + 6 * ((16 : Int) - (r.1 : Int))) ∧ exGo r.1 r.2 = exGo 16 (ex0 s)) (fun r => r.1) ?_ (16, ex0 s) ⟨o0, by have := o0.lo; simp only; omega, by simp only; omega, (far_shape hb).mono (by simp only; omega), rfl⟩
  rintro ⟨n, ns, u⟩ ⟨ho, hn, hn2, hf, hgo⟩ Kn hk
  simp only at ho hn hn2 hf hgo hk ⊢
  rw [← hgo] at h
  rw [show fr_spec_l05DrawShape_2 s [] = fr_spec_l05DrawShape_2 u ns from rfl, r_spec_l05DrawShape_2 u ns Kn K]
  have hlo := ho.lo
  have hhi := ho.hi
  simp only at hlo hhi
  cases n with
  | zero => omega
  | succ n =>
  have hs : exGo (n + 1) (ns, u) = bif exGoes (ns, u) then exGo n (exStep (ns, u)) else (ns, exAfter (ns, u)) := rfl
  rw [hs] at h hgo
  by_cases h16 : ns.length < 16
  · have gu : inS 400000 u = true := hf.ok hg (by omega)
    have g1 : srcIn 6 u = true := inS_src gu (by omega) 6 (by omega)
    have F1 := far_pick u 2
    have F2 := F1.trans (far_pick (pickS u 2) 4)
    have F3 := F2.trans (far_pick (pickS (pickS u 2) 4) 2)
    have g2 : srcIn 6 (pickS u 2) = true := inS_src (F1.ok gu (m := 400002) (by omega)) (by omega) 6 (by omega)
    have g3 : srcIn 6 (pickS (pickS u 2) 4) = true := inS_src (F2.ok gu (m := 400004) (by omega)) (by omega) 6 (by omega)
    rw [d_t (show (ns.length : Int) < 16 by omega), g1, cond_true, cond_true]
    cases hp : (pickV u 2 == 0) with
    | false =>
      have e : exGoes (ns, u) = false := by unfold exGoes; simp only [hp, Bool.and_false]
      have e2 : exAfter (ns, u) = pickS u 2 := by unfold exAfter; simp only [d_t h16, cond_true]
      rw [e, e2] at h
      exact h
    | true =>
      have e : exGoes (ns, u) = true := by unfold exGoes; simp only [hp, d_t h16, Bool.and_self]
      rw [e] at hgo
      have b1 := F1.bytes ho.b
      have b2 := F2.bytes ho.b
      have hkk := exKind_in b1
      have hex : ((([9, 10, 11, 15] : List Int)[(pickV (pickS u 2) 4).toNat]?).getD 0) = exKind (pickS u 2) := rfl
      have r2 := pickV_range b2 (n := 2) (by omega)
      have hw : IntKind.i64.wrap ((ns.length : Int) - 1) = (ns.length : Int) - 1 := i64_of (by omega) (by omega)
      have next := hk (n, exStep (ns, u)) ⟨exStep_ok ho h16, by show 17 ≤ (ns ++ [_]).length + n; simp only [List.length_append, List.length_singleton]; omega, by simp only; omega, (hf.trans F3).mono (by simp only; omega), hgo⟩ (Nat.lt_succ_self n)
      have hst : exStep (ns, u) = (ns ++ [exN (ns, u)], pickS (pickS (pickS u 2) 4) 2) := rfl
      rw [hst] at next
      unfold exN at next
      simp only at next
      have hc4 : ((4 : Nat) : Int) = 4 := rfl
      simp only [hex, hc4, g2, g3, hw, Bool.and_self, decide_true, cond_true, show decide (1 ≤ 4) = true from rfl]
      clear hk hgo hs h
      generalize exKind (pickS u 2) = k at *
      generalize pickV (pickS (pickS u 2) 4) 2 = v at *
      generalize pickS (pickS (pickS u 2) 4) 2 = t at *
      have hkn : 1 ≤ kindN k ∧ kindN k ≤ 4 := by rcases hkk with e | e | e | e <;> subst e <;> decide
      have inner : ∀ x : Nat, x = exVal k v → LoopE c_spec_l05DrawShape ⟨[0, 2, 3, 4, 5, 6], 1, true⟩ (pathB c_spec_l05DrawShape [2, 8] (bodyOf Try.f68)) (fr_spec_l05DrawShape_8 t ns k ((ns.length : Int) - 1) x [] (kindN k) 0) (hp_spec_l05DrawShape_8 t ns k ((ns.length : Int) - 1) x [] (kindN k) 0) (pathK c_spec_l05DrawShape [(2, ⟨[0, 2, 3], 1, true⟩, Kn)] 8 (bodyOf Try.f68) (kFnG gp_spec_l05DrawShape c_spec_l05DrawShape Try.f68 [.box []] K)) := by
        intro x hx
        rw [← hx] at next
        clear hx
        obtain ⟨m, hm⟩ : ∃ m : Nat, kindN k = (m : Int) := ⟨(kindN k).toNat, by omega⟩
        rw [hm] at hkn next ⊢
        rw [Int.toNat_natCast] at next
        refine loop_run (σ := Nat × Int) (fun q => fr_spec_l05DrawShape_8 t ns k ((ns.length : Int) - 1) x [] q.2 0) (fun q => match q.1 with | 0 => hp_spec_l05DrawShape_8 t ns k ((ns.length : Int) - 1) x [] q.2 0 | j + 1 => hp_spec_l05DrawShape_8 t ns k ((ns.length : Int) - 1) x (List.replicate (j + 1) x) q.2 1) (fun q => q.1 ≤ m ∧ q.2 = (m : Int) - q.1) (fun q => m - q.1) ?_ (0, (m : Int)) ⟨Nat.zero_le _, by simp only; omega⟩
        rintro ⟨j, c⟩ ⟨hj, hjc⟩ Kn' hk'
        simp only at hj hjc hk' ⊢
        cases j with
        | zero =>
          simp only
          refine Eq.mpr (r_spec_l05DrawShape_8_0 t ns k ((ns.length : Int) - 1) x [] c Kn Kn' K) ?_
          rw [d_t (show c > 0 by omega), i64_of (n := c - 1) (by omega) (by omega)]
          exact hk' (1, c - 1) ⟨by simp only; omega, by simp only; omega⟩ (by simp only; omega)
        | succ j =>
          simp only
          refine Eq.mpr (r_spec_l05DrawShape_8_1 t ns k ((ns.length : Int) - 1) x (List.replicate (j + 1) x) c Kn Kn' K) ?_
          by_cases hlt : j + 1 < m
          · rw [d_t (show c > 0 by omega), i64_of (n := c - 1) (by omega) (by omega), d_t (show ((List.replicate (j + 1) x).length + 1) * 4 ≤ 140737488355328 by rw [List.length_replicate]; omega)]
            have := hk' (j + 1 + 1, c - 1) ⟨by simp only; omega, by simp only; omega⟩ (by simp only; omega)
            simp only at this
            rw [List.replicate_succ' (n := j + 1)] at this
            exact this
          · have ej : j + 1 = m := by omega
            rw [d_f (show ¬ c > 0 by omega), d_t (show (ns.length + 1) * 48 ≤ 140737488355328 by omega), ej]
            exact next
      cases c1 : (k == 10) with
      | true => exact inner _ (by unfold exVal; rw [c1]; rfl)
      | false =>
        cases c2 : (k == 11) with
        | true => exact inner _ (by unfold exVal; rw [c1, c2]; rfl)
        | false => exact inner _ (by unfold exVal; rw [c1, c2]; rfl)
  · have e : exGoes (ns, u) = false := by unfold exGoes; simp only [d_f h16, Bool.false_and]
    have e2 : exAfter (ns, u) = u := by unfold exAfter; simp only [d_f h16, cond_false]
    rw [e, e2] at h
    rw [d_f (show ¬ (ns.length : Int) < 16 by omega)]
    exact h

noncomputable def c_spec_B10Shape : Ctx := mkC Try.prog tyT [] [] [(67, s_spec_l00From), (68, s_spec_l05DrawShape)] 8 (fun _ => none) 0
theorem w_spec_B10Shape (xs : List Int) (K : V → Heap → Prop) : wpFn c_spec_B10Shape Try.f13 (encAs [.cell tB] (xs, ())) [] K =
 cond (inS 300000 (xs, 0, 0))
 (K (.agg [(.vec tN (exV (xs, 0, 0)))]) [])
 (False) := by kernel_rfl
noncomputable def s_spec_B10Shape : Sm := semT [.cell tB] fun x => match x with | (xs, _) => .agg [.vec tN (exV (xs, 0, 0))]
theorem ok_spec_B10Shape : FnOk Try.prog 13 s_spec_B10Shape := fnOk_typed (fnOk_runC (C := c_spec_B10Shape) rfl mixed .nil .nil (.cons ok_spec_l00From (.cons ok_spec_l05DrawShape .nil)) Try.func13 (by kernel_rfl)) fun (x : ((List Int) × Unit)) wf K h => by
  obtain ⟨xs, ⟨⟩⟩ := x
  replace h : K (.agg [.vec tN (exV (xs, 0, 0))]) [] := h
  rw [w_spec_B10Shape xs K]
  exact cond_yes (by rw [inS_iff]; exact ⟨Int.le_refl _, by show (0 : Int) ≤ _; decide⟩) h

end Go.Proofs.Ytfhpmcdbfebflaa

/- What the laws of the first kind draw: rays, marches, numbers by index. -/
set_option linter.unusedVariables false
set_option linter.unusedSimpArgs false
set_option maxRecDepth 100000
namespace Go.Proofs.Ytfhpmcdbfebflaa
open Go.Ev Go.Ev.Fl

noncomputable def c_laws_b10Long : Ctx := mkC Try.prog tyT [] [] [] 13 (fun _ => none) 0
theorem w_laws_b10Long (xs ys : List Int) (K : V → Heap → Prop) : wpFn c_laws_b10Long Try.f12 (encAs [.cell tB, .cell tB] (xs, ys, ())) [] K =
 cond (decide ((↑(List.length xs) : Int) > 1048576))
 (K (.bool true) [])
 (K (.bool (decide ((↑(List.length ys) : Int) > 1048576))) []) := by kernel_rfl
noncomputable def s_laws_b10Long : Sm := semT [.cell tB, .cell tB] fun x => match x with | (xs, ys, _) => .bool (decide (1048576 < xs.length) || decide (1048576 < ys.length))
theorem ok_laws_b10Long : FnOk Try.prog 12 s_laws_b10Long := fnOk_typed (fnOk_runC (C := c_laws_b10Long) rfl mixed .nil .nil .nil Try.func12 (by kernel_rfl)) fun (x : ((List Int) × (List Int) × Unit)) wf K h => by
  obtain ⟨xs, ys, ⟨⟩⟩ := x
  replace h : K (.bool (decide (1048576 < xs.length) || decide (1048576 < ys.length))) [] := h
  rw [w_laws_b10Long xs ys K]
  have e : ∀ n : Nat, decide ((n : Int) > 1048576) = decide (1048576 < n) := fun n => decide_eq_decide.2 (by omega)
  rw [e, e]
  cases h1 : decide (1048576 < xs.length) <;> rw [h1] at h <;> exact h

def bAtV (xs : List Int) (i n : Int) : Int := bif decide (n ≤ 1) then 0 else bif decide (i < (xs.length : Int)) then ((xs[i.toNat]?).getD 0).tmod n else (i * 37 + 11).tmod n
noncomputable def c_laws_b10At : Ctx := mkC Try.prog tyT [] [] [] 25 (fun _ => none) 0
theorem w_laws_b10At (xs : List Int) (i n : Int) (K : V → Heap → Prop) : wpFn c_laws_b10At Try.f19 (encAs [.cell tB, .cell (.int .i64), .cell (.int .i64)] (xs, i, n, ())) [] K =
  cond (decide (n ≤ 1))
    (K (.int .i64 0) [])
    (cond (decide (i < (↑(List.length xs) : Int)))
      (cond (decide (0 ≤ i))
        ((match xs[Int.toNat i]? with
          | some y0 => cond (n == 0)
            (False)
            (K (.int .i64 (Int.tmod (IntKind.wrap IntKind.i64 y0) n)) [])
          | none => False))
        (False))
      (cond (n == 0)
        (False)
        (K (.int .i64 (Int.tmod (IntKind.wrap IntKind.i64 (IntKind.wrap IntKind.i64 (i * 37) + 11)) n)) []))) := by kernel_rfl
noncomputable def s_laws_b10At : Sm := semG [.cell tB, .cell (.int .i64), .cell (.int .i64)] (fun x => match x with | (xs, i, n, _) => decide (0 ≤ i) && decide (i ≤ 1000)) fun x => match x with | (xs, i, n, _) => .int .i64 (bAtV xs i n)
theorem ok_laws_b10At : FnOk Try.prog 19 s_laws_b10At := fnOk_typedG (fnOk_runC (C := c_laws_b10At) rfl mixed .nil .nil .nil Try.func19 (by kernel_rfl)) fun (x : ((List Int) × (Int) × (Int) × Unit)) wf hg K h => by
  obtain ⟨xs, i, n, ⟨⟩⟩ := x
  replace hg : (decide (0 ≤ i) && decide (i ≤ 1000)) = true := hg
  replace h : K (.int .i64 (bAtV xs i n)) [] := h
  rw [w_laws_b10At xs i n K]
  simp only [Bool.and_eq_true, decide_eq_true_eq] at hg
  unfold bAtV at h
  by_cases h1 : n ≤ 1
  · rw [d_t h1] at h ⊢; exact h
  · rw [d_f h1] at h ⊢
    simp only [cond_false] at h ⊢
    rw [beq_eq_false_iff_ne.2 (show n ≠ 0 by omega)]
    by_cases h2 : i < (xs.length : Int)
    · rw [d_t h2] at h ⊢
      have hl : i.toNat < xs.length := by omega
      rw [d_t hg.1, get_lt hl] at *
      have hb := bytes_of wf.1 _ (List.getElem_mem hl)
      simp only [cond_true, cond_false, Option.getD_some] at h ⊢
      rw [i64_of (by omega) (by omega)]
      exact h
    · rw [d_f h2] at h ⊢
      rw [i64_of (n := i * 37) (by omega) (by omega), i64_of (by omega) (by omega)]
      exact h

theorem bAt_range {xs : List Int} (hb : bytes xs) {i n : Int} (hi : 0 ≤ i) (hn : 1 ≤ n) : 0 ≤ bAtV xs i n ∧ bAtV xs i n < n := by
  unfold bAtV
  by_cases h1 : n ≤ 1
  · rw [d_t h1]; simp only [cond_true]; omega
  · rw [d_f h1]
    simp only [cond_false]
    have pos : ∀ x : Int, 0 ≤ x → 0 ≤ x.tmod n ∧ x.tmod n < n := fun x hx => ⟨Int.tmod_nonneg _ hx, Int.tmod_lt_of_pos _ (by omega)⟩
    cases decide (i < (xs.length : Int)) with
    | false => exact pos _ (by omega)
    | true =>
      refine pos _ ?_
      cases e : xs[i.toNat]? with
      | none => simp
      | some b => exact (hb b (List.mem_of_getElem? e)).1

end Go.Proofs.Ytfhpmcdbfebflaa

/- Parts, depths and leaves of shapes: walks. -/
set_option linter.unusedVariables false
set_option linter.unusedSimpArgs false
set_option maxRecDepth 100000
namespace Go.Proofs.Ytfhpmcdbfebflaa
open Go.Ev Go.Ev.Fl

def dI (ds : List Int) (c : Int) : Int := (ds[c.toNat]?).getD 0
def dMax (ds cs : List Int) : Int := cs.foldl (fun m c => max m (dI ds c)) 0
def dpL (ns : ShapeD) : Nat → List Int
  | 0 => []
  | i + 1 => dpL ns i ++ [dMax (dpL ns i) (kidsN (nodeAt ns i)) + 1]
def markK (bs : List Bool) (cs : List Int) : List Bool := cs.foldl (fun b c => b.set c.toNat true) bs
theorem markK_len : ∀ (cs : List Int) (bs : List Bool), (markK bs cs).length = bs.length
  | [], _ => rfl
  | c :: cs, bs => by
    show (markK (bs.set c.toNat true) cs).length = _
    rw [markK_len cs, List.length_set]
def belGo (ns : ShapeD) : Nat → List Bool → List Bool
  | 0, bs => bs
  | i + 1, bs => belGo ns i (bif (bs[i]?).getD false then markK bs (kidsN (nodeAt ns i)) else bs)
def belV (ns : ShapeD) (node : Int) : List Bool := belGo ns ns.length ((List.replicate ns.length false).set node.toNat true)

end Go.Proofs.Ytfhpmcdbfebflaa

/- Parts of shapes: walks. -/
set_option linter.unusedVariables false
set_option linter.unusedSimpArgs false
set_option maxRecDepth 100000
namespace Go.Proofs.Ytfhpmcdbfebflaa
open Go.Ev Go.Ev.Fl

def keepN (pl : List Int) (n : NodeD) : NodeD := (n.1, (bif !inR n.1 0 4 then dI pl n.2.1 else n.2.1), (bif inR n.1 5 8 then dI pl n.2.2.1 else n.2.2.1), n.2.2.2)
abbrev KpD := List Int × ShapeD
def kpStep (ns : ShapeD) (bs : List Bool) (i : Nat) (q : KpD) : KpD := bif (bs[i]?).getD false then (q.1.set i q.2.length, q.2 ++ [keepN (q.1.set i q.2.length) (nodeAt ns i)]) else q
def kpGo (ns : ShapeD) (bs : List Bool) : Nat → KpD
  | 0 => (List.replicate ns.length 0, [])
  | i + 1 => kpStep ns bs i (kpGo ns bs i)
def keptV (ns : ShapeD) (bs : List Bool) : ShapeD := (kpGo ns bs ns.length).2
def partV (ns : ShapeD) (node : Int) : ShapeD := keptV ns (belV ns node)

end Go.Proofs.Ytfhpmcdbfebflaa

/- Shapes that are joined and wrapped: walks of the program's functions. -/
set_option linter.unusedVariables false
set_option linter.unusedSimpArgs false
set_option maxRecDepth 100000
namespace Go.Proofs.Ytfhpmcdbfebflaa
open Go.Ev Go.Ev.Fl

theorem cond_intro {b : Bool} {P Q : Prop} (h : b = true) (hp : P) : cond b P Q := by rw [h]; exact hp
def putN1 (d : Int) (x : NodeD) : NodeD := (x.1, (bif !inR x.1 0 4 then IntKind.i64.wrap (x.2.1 + d) else x.2.1), (bif inR x.1 5 8 then IntKind.i64.wrap (x.2.2.1 + d) else x.2.2.1), x.2.2.2)

end Go.Proofs.Ytfhpmcdbfebflaa

/- What the laws of the second kind draw: points, shapes, shapes of few nodes. -/
set_option linter.unusedVariables false
set_option linter.unusedSimpArgs false
set_option maxRecDepth 100000
namespace Go.Proofs.Ytfhpmcdbfebflaa
open Go.Ev Go.Ev.Fl

end Go.Proofs.Ytfhpmcdbfebflaa

/- Plain: parts of shapes: which nodes they have, that they are valid, how deep they are; leaves. -/
set_option linter.unusedVariables false
set_option linter.unusedSimpArgs false
set_option maxRecDepth 100000
namespace Go.Proofs.Ytfhpmcdbfebflaa
open Go.Ev Go.Ev.Fl

abbrev kidsAt (ns : ShapeD) (i : Nat) : List Int := kidsN (nodeAt ns (i : Int))
structure Tree (ns : ShapeD) : Prop where
  st : Stack ns [(ns.length : Int) - 1]
  lo : 1 ≤ ns.length
theorem Tree.at {ns : ShapeD} (h : Tree ns) {i : Nat} (hi : i < ns.length) : ns[i]? = some (nodeAt ns i) ∧ nodeB i (nodeAt ns i) = true := by
  have e : ns[i]? = some (ns[i]'hi) := get_lt hi
  have en : nodeAt ns (i : Int) = ns[i]'hi := by unfold nodeAt; rw [Int.toNat_natCast, e]; rfl
  rw [en]
  exact ⟨e, h.st.nodes i _ e⟩
theorem Tree.kid {ns : ShapeD} (h : Tree ns) {i : Nat} (hi : i < ns.length) : ∀ c ∈ kidsAt ns i, 0 ≤ c ∧ c < i := by
  have hb := (h.at hi).2
  intro c hc
  have := nodeB_kids hb c hc
  omega
theorem Tree.nodes {ns : ShapeD} (h : Tree ns) : nodesB ns = true := okUp_all fun j n _ e => h.st.nodes j n e
def mkB (bs : List Bool) (j : Nat) : Bool := (bs[j]?).getD false
theorem mk_set {bs : List Bool} {c : Nat} (hc : c < bs.length) (j : Nat) : mkB (bs.set c true) j = true ↔ mkB bs j = true ∨ j = c := by
  unfold mkB
  rw [List.getElem?_set]
  by_cases e : c = j
  · subst e
    rw [if_pos rfl, if_pos hc]
    simp
  · rw [if_neg e]
    constructor
    · exact .inl
    · rintro (k | k)
      · exact k
      · exact absurd k.symm e
theorem mk_markK : ∀ (cs : List Int) (bs : List Bool), (∀ c ∈ cs, 0 ≤ c ∧ c < bs.length) → ∀ j, mkB (markK bs cs) j = true ↔ mkB bs j = true ∨ (j : Int) ∈ cs
  | [], bs, _, j => by simp [markK]
  | c :: cs, bs, h, j => by
    have hc := h c (by simp)
    have ih := mk_markK cs (bs.set c.toNat true) (fun d hd => by rw [List.length_set]; exact h d (by simp [hd])) j
    show mkB (markK (bs.set c.toNat true) cs) j = true ↔ _
    rw [ih, mk_set (by omega), List.mem_cons]
    constructor
    · rintro ((k | k) | k)
      · exact .inl k
      · exact .inr (.inl (by omega))
      · exact .inr (.inr k)
    · rintro (k | k | k)
      · exact .inl (.inl k)
      · exact .inl (.inr (by omega))
      · exact .inr k
structure Mkd (ns : ShapeD) (node i : Nat) (bs : List Bool) : Prop where
  len : bs.length = ns.length
  top : mkB bs node = true
  le : ∀ j, mkB bs j = true → j ≤ node
  down : ∀ p, i ≤ p → p < ns.length → mkB bs p = true → ∀ c ∈ kidsAt ns p, mkB bs c.toNat = true
  up : ∀ j, mkB bs j = true → j ≠ node → ∃ p, i ≤ p ∧ p < ns.length ∧ mkB bs p = true ∧ (j : Int) ∈ kidsAt ns p
theorem Mkd.step {ns : ShapeD} (T : Tree ns) {node i : Nat} {bs : List Bool} (h : Mkd ns node (i + 1) bs) (hi : i < ns.length) : Mkd ns node i (bif mkB bs i then markK bs (kidsAt ns i) else bs) := by
  have hk := T.kid hi
  cases e : mkB bs i with
  | false =>
    simp only [cond_false]
    refine ⟨h.len, h.top, h.le, fun p hp hpl hm c hc => ?_, fun j hj hn => ?_⟩
    · rcases Nat.lt_or_ge i p with k | k
      · exact h.down p (by omega) hpl hm c hc
      · have : p = i := by omega
        subst this
        rw [e] at hm; cases hm
    · obtain ⟨p, h1, h2⟩ := h.up j hj hn
      exact ⟨p, by omega, h2⟩
  | true =>
    have K := mk_markK (kidsAt ns i) bs (fun c hc => by have := hk c hc; have := h.len; omega)
    simp only [cond_true]
    refine ⟨by rw [markK_len]; exact h.len, (K node).2 (.inl h.top), fun j hj => ?_, fun p hp hpl hm c hc => ?_, fun j hj hn => ?_⟩
    · rcases (K j).1 hj with k | k
      · exact h.le j k
      · have := hk _ k; have := h.le i e; omega
    · rw [K]
      have cr := T.kid hpl c hc
      rcases Nat.lt_or_ge i p with k | k
      · have hpm : mkB bs p = true := by
          rcases (K p).1 hm with q | q
          · exact q
          · have := hk _ q; omega
        exact .inl (h.down p (by omega) hpl hpm c hc)
      · have : p = i := by omega
        subst this
        exact .inr (by rw [Int.toNat_of_nonneg cr.1]; exact hc)
    · rcases (K j).1 hj with k | k
      · obtain ⟨p, h1, h2, h3, h4⟩ := h.up j k hn
        exact ⟨p, by omega, h2, (K p).2 (.inl h3), h4⟩
      · exact ⟨i, Nat.le_refl _, hi, (K i).2 (.inl e), k⟩
def ms (bs : List Bool) (i : Nat) : List Nat := (List.range i).filter (mkB bs)
theorem ax_reN {k a c a' c' : Int} (hk : isK k = true) (h0 : inR k 0 4 = true → a' = a) (h5 : inR k 5 8 = false → c' = c) (h : axB k a c = true) : axB k a' c' = true := by
  rcases kind_ax a c hk with ⟨q1, q2, q3⟩ | ⟨q1, q2, q3, q4, q5⟩ | ⟨q1, q2, q3, q4, q5⟩ | ⟨q1, q2, q3, q4⟩
  · have q5 : inR k 5 8 = false := by rcases kinds hk with r | r | r | r | r | r | r | r | r | r | r | r | r | r | r | r | r <;> subst r <;> first | rfl | cases q1
    rw [h0 q1, h5 q5]; exact h
  · rw [h5 q2]
    rcases kind_ax a' c hk with ⟨p1, p2, p3⟩ | ⟨p1, p2, p3, p4, p5⟩ | ⟨p1, p2, p3, p4, p5⟩ | ⟨p1, p2, p3, p4⟩
    · rw [p1] at q1; cases q1
    · rw [p5, ← q5]; exact h
    · rw [p3] at q3; cases q3
    · exact p4
  · rw [h5 q2]
    rcases kind_ax a' c hk with ⟨p1, p2, p3⟩ | ⟨p1, p2, p3, p4, p5⟩ | ⟨p1, p2, p3, p4, p5⟩ | ⟨p1, p2, p3, p4⟩
    · rw [p1] at q1; cases q1
    · rw [p3] at q3; cases q3
    · rw [p5, ← q5]; exact h
    · exact p4
  · rcases kind_ax a' c' hk with ⟨p1, p2, p3⟩ | ⟨p1, p2, p3, p4, p5⟩ | ⟨p1, p2, p3, p4, p5⟩ | ⟨p1, p2, p3, p4⟩
    · rw [p1] at q1; cases q1
    · rw [p2] at q2; cases q2
    · rw [p2] at q2; cases q2
    · exact p4
theorem Tree.isK {ns : ShapeD} (T : Tree ns) {i : Nat} (hi : i < ns.length) : isK (nodeAt ns (i : Int)).1 = true := nodeB_isK (T.at hi).2
def dp (ns : ShapeD) (i : Nat) : Int := dMax (dpL ns i) (kidsAt ns i) + 1
end Go.Proofs.Ytfhpmcdbfebflaa

/- Floats as rational numbers: numbers that are bounded by a power of two; so nothing is a not-a-number. -/
set_option linter.unusedVariables false
set_option linter.unusedSimpArgs false
namespace Go.Ev
open Ieee

namespace Fl
def wpw (e : Nat) : Nat := (e + 127) * 8388608
theorem wpw_ex {e : Nat} (h : e ≤ 126) : Ex .f32 (wpw e) (pw (e : Int)) := by
  have hb : FloatKind.f32.format.binade = 8388608 := by decide
  have hr : (e + 126) * FloatKind.f32.format.binade + 8388608 ≤ infOf .f32 := by
    rw [hb]
    have : infOf .f32 = 2139095040 := rfl
    omega
  have hw : wpw e = FloatKind.f32.format.word false ((e + 126) * FloatKind.f32.format.binade + 8388608) := by
    rw [hb]
    unfold wpw
    show _ = (e + 126) * 8388608 + 8388608
    omega
  have hlt : wpw e < infOf .f32 := by
    have : infOf .f32 = 2139095040 := rfl
    unfold wpw
    omega
  have hi : infOf .f32 = 2139095040 := rfl
  have hs : signOf .f32 = 2147483648 := rfl
  refine ⟨?_, by omega, ?_⟩
  · rw [fin_iff]
    show wpw e % signOf .f32 < infOf .f32
    rw [Nat.mod_eq_of_lt (by omega)]
    exact hlt
  · rw [ev_lit (k := .f32) false (e + 126) 8388608 (by rw [hb]; decide) (.inr (by omega)) hw hr]
    have hl : FloatKind.f32.format.leastPlace = -149 := by decide
    rw [hl, show ∀ q : Rat, sgd false q = q from fun _ => rfl]
    have e1 : ((8388608 : Nat) : Rat) = pw ((23 : Nat) : Int) := by rw [pw_nat, show (2 ^ 23 : Nat) = 8388608 by decide]
    rw [e1, ← pw_add]
    exact congrArg pw (by omega)
structure Bd (e : Nat) (x : Nat) : Prop where
  f : fin .f32 x = true
  l : x < 2 * signOf .f32
  lo : -pw (e : Int) ≤ ev .f32 x
  hi : ev .f32 x ≤ pw (e : Int)
theorem Bd.nan {e x : Nat} (h : Bd e x) : nan .f32 x = false := fin_nan h.f
theorem Bd.ex {e x : Nat} (h : Bd e x) : Ex .f32 x (ev .f32 x) := ⟨h.f, h.l, rfl⟩
theorem Bd.mono {e g x : Nat} (h : Bd e x) (he : e ≤ g) : Bd g x := by
  have := pw_le (show (e : Int) ≤ (g : Int) by omega)
  exact ⟨h.f, h.l, by have := h.lo; grind, by have := h.hi; grind⟩
theorem Bd.of_rnd {q : Rat} {b e : Nat} (h : Rnd .f32 q b) (h1 : -pw (e : Int) ≤ q) (h2 : q ≤ pw (e : Int)) (he : e ≤ 126) : Bd e b := by
  have W := wpw_ex he
  have V := W.neg
  have hi := h.le W.nan W.l (by rw [W.e]; exact h2)
  have lo := h.ge V.nan V.l (by rw [V.e]; exact h1)
  have hp := ev_le_iff.1 hi
  have lp := ev_le_iff.1 lo
  have f1 := (fin_pos W.nan).1 W.f
  have f2 := (fin_pos V.nan).1 V.f
  rw [W.e] at hi
  rw [V.e] at lo
  exact ⟨(fin_pos h.nan).2 ⟨by omega, by omega⟩, h.lt2, lo, hi⟩
theorem Bd.of_ex {q : Rat} {b e : Nat} (h : Ex .f32 b q) (h1 : -pw (e : Int) ≤ q) (h2 : q ≤ pw (e : Int)) : Bd e b := ⟨h.f, h.l, by rw [h.e]; exact h1, by rw [h.e]; exact h2⟩
theorem pw_two (e : Nat) : pw ((e + 1 : Nat) : Int) = 2 * pw (e : Int) := by rw [show ((e + 1 : Nat) : Int) = (e : Int) + 1 by omega]; exact pw_succ _
theorem pw_sum (e g : Nat) : pw ((e + g : Nat) : Int) = pw (e : Int) * pw (g : Int) := by rw [show ((e + g : Nat) : Int) = (e : Int) + (g : Int) by omega]; exact pw_add _ _
theorem Bd.add {e x y : Nat} (hx : Bd e x) (hy : Bd e y) (he : e ≤ 125) : Bd (e + 1) (fadd .f32 x y) := by
  have p := pw_two e
  have := hx.lo; have := hx.hi; have := hy.lo; have := hy.hi
  exact .of_rnd (hx.ex.radd hy.ex) (by rw [p]; grind) (by rw [p]; grind) (by omega)
theorem Bd.sub {e x y : Nat} (hx : Bd e x) (hy : Bd e y) (he : e ≤ 125) : Bd (e + 1) (fsub .f32 x y) := by
  have p := pw_two e
  have := hx.lo; have := hx.hi; have := hy.lo; have := hy.hi
  exact .of_rnd (hx.ex.rsub hy.ex) (by rw [p]; grind) (by rw [p]; grind) (by omega)
theorem mul_bound {a b A B : Rat} (hA : 0 ≤ A) (hB : 0 ≤ B) (h1 : -A ≤ a) (h2 : a ≤ A) (h3 : -B ≤ b) (h4 : b ≤ B) : -(A * B) ≤ a * b ∧ a * b ≤ A * B := by
  have p1 := Rat.mul_nonneg (show 0 ≤ A - a by grind) (show 0 ≤ B - b by grind)
  have p2 := Rat.mul_nonneg (show 0 ≤ A + a by grind) (show 0 ≤ B + b by grind)
  have p3 := Rat.mul_nonneg (show 0 ≤ A - a by grind) (show 0 ≤ B + b by grind)
  have p4 := Rat.mul_nonneg (show 0 ≤ A + a by grind) (show 0 ≤ B - b by grind)
  constructor <;> grind
theorem Bd.mul {e g x y : Nat} (hx : Bd e x) (hy : Bd g y) (he : e + g ≤ 126) : Bd (e + g) (fmul .f32 x y) := by
  have p := pw_sum e g
  have := mul_bound (Rat.le_of_lt (pw_pos (e : Int))) (Rat.le_of_lt (pw_pos (g : Int))) hx.lo hx.hi hy.lo hy.hi
  exact .of_rnd (hx.ex.rmul hy.ex) (by rw [p]; exact this.1) (by rw [p]; exact this.2) he
theorem Bd.div {e g x y : Nat} (hx : Bd e x) {q : Rat} (hy : Ex .f32 y q) (h1 : 0 < q) (h2 : 1 ≤ q * pw (g : Int)) (he : e + g ≤ 126) : Bd (e + g) (fdiv .f32 x y) := by
  have h0 : q ≠ 0 := by grind
  have p := pw_sum e g
  have hq : ev .f32 x / q * q = ev .f32 x := Rat.div_mul_cancel h0
  have hm := Rat.mul_nonneg (Rat.le_of_lt (pw_pos (e : Int))) (show 0 ≤ q * pw (g : Int) - 1 by grind)
  have hi : ev .f32 x / q ≤ pw (e : Int) * pw (g : Int) := by
    refine Rat.le_of_mul_le_mul_right ?_ h1
    rw [hq]
    have := hx.hi
    grind
  have lo : -(pw (e : Int) * pw (g : Int)) ≤ ev .f32 x / q := by
    refine Rat.le_of_mul_le_mul_right ?_ h1
    rw [hq]
    have := hx.lo
    grind
  exact .of_rnd (hx.ex.rdiv hy h0) (by rw [p]; exact lo) (by rw [p]; exact hi) he
theorem Bd.neg {e x : Nat} (hx : Bd e x) : Bd e (fneg .f32 x) := by
  have := hx.lo; have := hx.hi
  exact .of_ex hx.ex.neg (by grind) (by grind)
theorem tab_root : (List.range 63).all (fun m => Nat.beq (rootN (wpw (2 * m))) (wpw m)) = true := by decide +kernel
theorem Bd.root {m x : Nat} (hx : Bd (2 * m) x) (h0 : 0 ≤ ev .f32 x) (hm : m ≤ 62) : Bd m (rootN x) ∧ 0 ≤ ev .f32 (rootN x) := by
  obtain ⟨a1, a2, a3⟩ := root_ex hx.ex h0
  have t := List.all_eq_true.1 tab_root m (List.mem_range.2 (by omega))
  have t := Nat.eq_of_beq_eq_true t
  have W := wpw_ex (e := 2 * m) (by omega)
  have V := wpw_ex (e := m) (by omega)
  have h := root_mono hx.ex W h0 hx.hi
  rw [t, V.e] at h
  have := pw_pos (m : Int)
  exact ⟨⟨a1, a2, by grind, h⟩, a3⟩
theorem Q.bd {s b e x : Nat} {q : Rat} (h : Q s b x q) (hb : b ≤ 2 ^ (s + e)) : Bd e x := by
  obtain ⟨n, h1, h2⟩ := h.g
  have p0 : (0 : Rat) < ((2 ^ s : Nat) : Rat) := Rat.natCast_pos.2 (Nat.two_pow_pos _)
  have hp : ((2 ^ (s + e) : Nat) : Rat) = ((2 ^ s : Nat) : Rat) * pw (e : Int) := by rw [Nat.pow_add, Rat.natCast_mul, pw_nat]
  have hn : n.natAbs ≤ 2 ^ (s + e) := by omega
  have n1 : -((2 ^ (s + e) : Nat) : Rat) ≤ (n : Rat) ∧ (n : Rat) ≤ ((2 ^ (s + e) : Nat) : Rat) := by
    have a1 : -((2 ^ (s + e) : Nat) : Int) ≤ n := by omega
    have a2 : n ≤ ((2 ^ (s + e) : Nat) : Int) := by omega
    have a1 := Rat.intCast_le_intCast.2 a1
    have a2 := Rat.intCast_le_intCast.2 a2
    rw [Rat.intCast_neg] at a1
    exact ⟨a1, a2⟩
  rw [hp, ← h1] at n1
  refine .of_ex h.x ?_ ?_
  · refine Rat.le_of_mul_le_mul_right ?_ p0
    grind
  · refine Rat.le_of_mul_le_mul_right ?_ p0
    grind
end Fl
end Go.Ev

/- Plain: distances of shapes of small numbers are bounded, so none is a not-a-number. -/
set_option linter.unusedVariables false
set_option linter.unusedSimpArgs false
set_option maxRecDepth 100000
namespace Go.Proofs.Ytfhpmcdbfebflaa
open Go.Ev Go.Ev.Fl

structure BV (e : Nat) (p : V3) : Prop where
  x : Bd e p.1
  y : Bd e p.2.1
  z : Bd e p.2.2
theorem BV.mono {e g : Nat} {p : V3} (h : BV e p) (he : e ≤ g) : BV g p := ⟨h.x.mono he, h.y.mono he, h.z.mono he⟩
end Go.Proofs.Ytfhpmcdbfebflaa

/- Plain: joined and wrapped shapes: they are trees, and their distances. Drawn shapes have small numbers. -/
set_option linter.unusedVariables false
set_option linter.unusedSimpArgs false
set_option maxRecDepth 100000
namespace Go.Proofs.Ytfhpmcdbfebflaa
open Go.Ev Go.Ev.Fl

theorem cond_no {b : Bool} {P Q : Prop} (h : b = false) (hq : Q) : cond b P Q := by rw [h]; exact hq
def reF (f : Int → Int) (n : NodeD) : NodeD := (n.1, (bif !inR n.1 0 4 then f n.2.1 else n.2.1), (bif inR n.1 5 8 then f n.2.2.1 else n.2.2.1), n.2.2.2)
theorem kids_reF (f : Int → Int) {n : NodeD} (hk : isK n.1 = true) : kidsN (reF f n) = (kidsN n).map f := by
  obtain ⟨k, a, c, xs⟩ := n
  unfold reF
  simp only
  rcases kind_cases a c hk with ⟨q1, q2, q3⟩ | ⟨q1, q2, q3⟩ | ⟨q1, q2, q3⟩ <;> simp only [q1, q2, Bool.not_true, Bool.not_false, cond_true, cond_false]
  · show kids k a c = (kids k a c).map f
    rw [q3]; rfl
  · show kids k (f a) c = (kids k a c).map f
    rw [q3]
    rcases kind_cases (f a) c hk with ⟨p1, p2, p3⟩ | ⟨p1, p2, p3⟩ | ⟨p1, p2, p3⟩
    · rw [p1] at q1; cases q1
    · rw [p3]; rfl
    · rw [p2] at q2; cases q2
  · show kids k (f a) (f c) = (kids k a c).map f
    rw [q3]
    rcases kind_cases (f a) (f c) hk with ⟨p1, p2, p3⟩ | ⟨p1, p2, p3⟩ | ⟨p1, p2, p3⟩
    · rw [p1] at q1; cases q1
    · rw [p2] at q2; cases q2
    · rw [p3]; rfl
theorem put_re {d : Nat} {i : Int} {n : NodeD} (hd : d ≤ 64) (hi : i ≤ 64) (hb : nodeB i n = true) : putN1 d n = reF (fun c => c + d) n := by
  obtain ⟨k, a, c, xs⟩ := n
  obtain ⟨b1, b2, b3⟩ := nodeB_parts hb
  unfold putN1 reF
  simp only
  rcases kind_cases a c (nums_isK b1) with ⟨q1, q2, q3⟩ | ⟨q1, q2, q3⟩ | ⟨q1, q2, q3⟩ <;> rw [q3] at b3 <;> simp only [q1, q2, Bool.not_true, Bool.not_false, cond_true, cond_false]
  · have k1 := b3 a (by simp)
    rw [i64_of (by omega) (by omega)]
  · have k1 := b3 a (by simp)
    have k2 := b3 c (by simp)
    rw [i64_of (by omega) (by omega), i64_of (by omega) (by omega)]
theorem nodeB_re {i j : Int} {n : NodeD} {f : Int → Int} (hb : nodeB i n = true) (hf : ∀ c, 0 ≤ c → c < i → 0 ≤ f c ∧ f c < j) : nodeB j (reF f n) = true := by
  have hk := nodeB_isK hb
  have hkid := kids_reF f hk
  obtain ⟨k, a, c, xs⟩ := n
  obtain ⟨b1, b2, b3⟩ := nodeB_parts hb
  unfold nodeB
  rw [hkid]
  simp only [Bool.and_eq_true]
  refine ⟨b1, ax_reN (k := k) (a := a) (c := c) hk (fun e => ?_) (fun e => ?_) b2, List.all_eq_true.2 fun x hx => ?_⟩
  · show (bif !inR k 0 4 then f a else a) = a
    rw [e]; rfl
  · show (bif inR k 5 8 then f c else c) = c
    rw [e]; rfl
  · obtain ⟨y, hy, rfl⟩ := List.mem_map.1 hx
    have h3 := b3 y hy
    have := hf y h3.1 h3.2
    exact inR_iff.2 (by omega)

theorem upTo_add (m n : Nat) : upTo (m + n) = upTo m ++ (upTo n).map (fun c => c + (m : Int)) := by
  induction n with
  | zero => simp [upTo]
  | succ n ih =>
    rw [← Nat.add_assoc, upTo_succ, ih, upTo_succ, List.map_append, List.append_assoc]
    congr 2
    simp only [List.map_cons, List.map_nil]
    congr 1
    omega
theorem flat_put {v : ShapeD} {d : Nat} (hd : d ≤ 64) (h : ∀ n ∈ v, ∃ i : Int, i ≤ 64 ∧ nodeB i n = true) : (v.map (putN1 d)).flatMap kidsN = (v.flatMap kidsN).map (fun c => c + (d : Int)) := by
  induction v with
  | nil => rfl
  | cons n r ih =>
    rw [List.map_cons, List.flatMap_cons, List.flatMap_cons, List.map_append, ih fun m hm => h m (by simp [hm])]
    obtain ⟨i, hi, hb⟩ := h n (by simp)
    rw [put_re hd hi hb, kids_reF _ (nodeB_isK hb)]
theorem Stack.app {u v : ShapeD} {fu fv : List Int} (hu : Stack u fu) (hv : Stack v fv) (hn : v ≠ []) (hl : u.length ≤ 64) (hl2 : v.length ≤ 64) : Stack (u ++ v.map (putN1 u.length)) (fu ++ fv.map (fun c => c + (u.length : Int))) := by
  have hb : ∀ n ∈ v, ∃ i : Int, i ≤ 64 ∧ nodeB i n = true := fun n hn => by
    obtain ⟨i, hi, rfl⟩ := List.mem_iff_getElem.1 hn
    exact ⟨i, by omega, hv.nodes i _ (List.getElem?_eq_getElem hi)⟩
  refine ⟨fun j n hj => ?_, ?_, fun _ => ?_⟩
  · rcases Nat.lt_or_ge j u.length with h | h
    · rw [List.getElem?_append_left h] at hj
      exact hu.nodes j n hj
    · rw [List.getElem?_append_right h, List.getElem?_map] at hj
      cases e : v[j - u.length]? with
      | none => rw [e] at hj; cases hj
      | some m =>
        rw [e] at hj
        cases hj
        have hm := hv.nodes _ m e
        have hlt := lt_of_get e
        rw [put_re (i := ((j - u.length : Nat) : Int)) hl (by omega) hm]
        exact nodeB_re hm fun c h0 h1 => by omega
  · rw [List.length_append, List.length_map, upTo_add, List.flatMap_append, flat_put hl hb]
    have h1 := hu.perm
    have h2 := hv.perm.map (fun c => c + (u.length : Int))
    rw [List.map_append] at h2
    refine List.Perm.trans ?_ (h1.append h2)
    rw [List.append_assoc, List.append_assoc]
    refine List.Perm.append_left _ ?_
    rw [← List.append_assoc, ← List.append_assoc]
    exact List.Perm.append_right _ List.perm_append_comm
  · have := hv.last hn
    rw [List.getLast?_append, List.getLast?_map, this, List.length_append, List.length_map]
    show some ((v.length : Int) - 1 + (u.length : Int)) = some (((u.length + v.length : Nat) : Int) - 1)
    congr 1
    omega
theorem Tree.ne {s : ShapeD} (h : Tree s) : s ≠ [] := fun e => by have := h.lo; rw [e] at this; simp at this
end Go.Proofs.Ytfhpmcdbfebflaa

/- Floats: roots between numbers; a root of a quarter is nearly a half of the root. -/
set_option linter.unusedVariables false
set_option linter.unusedSimpArgs false
namespace Go.Ev
open Ieee

namespace Fl
theorem rnd_between {k : FloatKind} {q a c : Rat} {b u v : Nat} (h : Rnd k q b) (U : Ex k u a) (V : Ex k v c) (h1 : a ≤ q) (h2 : q ≤ c) : fin k b = true ∧ a ≤ ev k b ∧ ev k b ≤ c := by
  have hi := h.le V.nan V.l (by rw [V.e]; exact h2)
  have lo := h.ge U.nan U.l (by rw [U.e]; exact h1)
  have hp := ev_le_iff.1 hi
  have lp := ev_le_iff.1 lo
  have f1 := (fin_pos V.nan).1 V.f
  have f2 := (fin_pos U.nan).1 U.f
  rw [V.e] at hi
  rw [U.e] at lo
  exact ⟨(fin_pos h.nan).2 ⟨by omega, by omega⟩, lo, hi⟩
theorem mg_of {x : Nat} {q : Rat} (h : Ex .f64 x q) (h0 : 0 < q) : mg FloatKind.f64.format (rung .f64 x) = q := by
  have e := h.e
  unfold ev at e
  have nn := mg_nonneg FloatKind.f64.format (rung .f64 x)
  cases s : sg .f64 x with
  | true => rw [s] at e; simp only [sgd, cond_true] at e; grind
  | false => rw [s] at e; exact e
theorem root_le {x w : Nat} {q v : Rat} (h : Ex .f32 x q) (h0 : 0 ≤ q) (hw : Ex .f32 w v) (hv : 0 < v) (hq : q ≤ v * v) : ev .f32 (rootN x) ≤ v := by
  by_cases h1 : 0 < q
  · obtain ⟨r, E, h2, n, N, _, f⟩ := root_fin h h1
    have W := widen_ex hw
    have m := mg_of W hv
    have hr := n.hi (rung .f64 (widen w)) (by rw [m]; exact hq)
    have := N.le hw.nan hw.l (by rw [hw.e, ← m]; exact mg_le _ hr)
    rwa [hw.e] at this
  · have h2 : ev .f32 x = 0 := by rw [h.e]; grind
    have z : ∀ b, b = 0 ∨ b = 2147483648 → rootN b < 2 * signOf .f32 ∧ (rootN b = 0 ∨ rootN b = 2147483648) := by
      rintro b (rfl | rfl) <;> decide +kernel
    obtain ⟨a2, a3⟩ := z x ((ev_zero h.l).1 h2)
    rw [(ev_zero a2).2 a3]
    grind
theorem root_ge {x w : Nat} {q v : Rat} (h : Ex .f32 x q) (h0 : 0 < q) (hw : Ex .f32 w v) (hv : 0 < v) (hq : v * v ≤ q) : v ≤ ev .f32 (rootN x) := by
  obtain ⟨r, E, h2, n, N, _, f⟩ := root_fin h h0
  have W := widen_ex hw
  have m := mg_of W hv
  have hi : rung .f64 (widen w) ≤ FloatKind.f64.format.infRung := by
    have := fin_iff.1 W.f
    have e : FloatKind.f64.format.infRung = infOf .f64 := by decide
    omega
  have hr := n.lo (rung .f64 (widen w)) hi (by rw [m]; exact hq)
  have := N.ge hw.nan hw.l (by rw [hw.e, ← m]; exact mg_le _ hr)
  rwa [hw.e] at this

def gapR : Nat → Nat → Nat
  | 0, x => x
  | n + 1, x => gapR n (fdiv .f64 x 4611686018427387904)
theorem two64 : Ex .f64 4611686018427387904 2 := by
  have := widen_ex q_two.x
  rwa [show widen 1073741824 = 4611686018427387904 by decide +kernel] at this
theorem pow_pos2 (n : Nat) : (0 : Rat) < ((2 ^ n : Nat) : Rat) := Rat.natCast_pos.2 (Nat.two_pow_pos n)
theorem pow_succ2 (n : Nat) : ((2 ^ (n + 1) : Nat) : Rat) = 2 * ((2 ^ n : Nat) : Rat) := by
  rw [Nat.pow_succ, Rat.natCast_mul, Rat.mul_comm]; rfl
theorem share64 (m s : Nat) (hm : m ≤ 16777216) (hs : s ≤ 149) : ∃ w, Ex .f64 w ((m : Rat) / ((2 ^ s : Nat) : Rat)) := by
  have h0 : (((2 ^ s : Nat) : Rat)) ≠ 0 := by have := pow_pos2 s; grind
  have g : Gr s m ((m : Rat) / ((2 ^ s : Nat) : Rat)) := ⟨(m : Int), by rw [Rat.div_mul_cancel h0]; rfl, by omega⟩
  obtain ⟨w, a, b, c⟩ := g.rep64 (by omega) (by omega)
  exact ⟨w, a, b, c⟩
theorem share32 (m s : Nat) (hm : m ≤ 16777216) (hs : s ≤ 149) : ∃ w, Ex .f32 w ((m : Rat) / ((2 ^ s : Nat) : Rat)) := by
  have h0 : (((2 ^ s : Nat) : Rat)) ≠ 0 := by have := pow_pos2 s; grind
  have g : Gr s m ((m : Rat) / ((2 ^ s : Nat) : Rat)) := ⟨(m : Int), by rw [Rat.div_mul_cancel h0]; rfl, by omega⟩
  obtain ⟨w, a, b, c⟩ := g.rep32 hm hs
  exact ⟨w, a, b, c⟩
theorem half_share (m : Nat) (s : Nat) : (m : Rat) / ((2 ^ s : Nat) : Rat) / 2 = (m : Rat) / ((2 ^ (s + 1) : Nat) : Rat) := by
  have := pow_pos2 s
  rw [pow_succ2]
  grind
theorem half_le {a b : Rat} (h : a ≤ b) : a / 2 ≤ b / 2 := by grind
theorem gap_ge : ∀ (r s m M : Nat) (x : Nat), m ≤ 16777216 → M ≤ 16777216 → s + r ≤ 149 → fin .f64 x = true → (m : Rat) / ((2 ^ s : Nat) : Rat) ≤ ev .f64 x → ev .f64 x ≤ (M : Rat) / ((2 ^ s : Nat) : Rat) → fin .f64 (gapR r x) = true ∧ (m : Rat) / ((2 ^ (s + r) : Nat) : Rat) ≤ ev .f64 (gapR r x)
  | 0, s, m, M, x, h1, h2, h3, hf, ha, hb => ⟨hf, ha⟩
  | r + 1, s, m, M, x, h1, h2, h3, hf, ha, hb => by
    have R := fdiv_rnd hf two64.f (by rw [two64.e]; decide)
    rw [two64.e] at R
    obtain ⟨u, U⟩ := share64 m (s + 1) h1 (by omega)
    obtain ⟨v, V⟩ := share64 M (s + 1) h2 (by omega)
    obtain ⟨f, a, b⟩ := rnd_between R U V (by rw [← half_share]; exact half_le ha) (by rw [← half_share]; exact half_le hb)
    have := gap_ge r (s + 1) m M _ h1 h2 (by omega) f a b
    rwa [show s + 1 + r = s + (r + 1) by omega] at this
theorem gap_root {x y r : Nat} {q : Rat} (X : Ex .f32 x (q / ((4 ^ r : Nat) : Rat))) (Y : Ex .f32 y q) (h0 : 0 ≤ q) (h1 : q ≤ 441) (hr : r ≤ 60) : fle .f64 (widen (rootN x)) (fadd .f64 (gapR r (widen (rootN y))) 4562254508917369340) = true := by
  have p4 : ((4 ^ r : Nat) : Rat) = ((2 ^ r : Nat) : Rat) * ((2 ^ r : Nat) : Rat) := by
    rw [← Rat.natCast_mul, ← Nat.mul_pow]
  have p2 := pow_pos2 r
  have q4 : 0 ≤ q / ((4 ^ r : Nat) : Rat) := by
    rw [Rat.div_def]
    exact Rat.mul_nonneg h0 (Rat.le_of_lt (Rat.inv_pos.2 (by rw [p4]; exact Rat.mul_pos p2 p2)))
  obtain ⟨fx, lx, nx⟩ := root_ex X q4
  obtain ⟨fy, ly, ny⟩ := root_ex Y h0
  have c21 : Ex .f32 (FloatKind.f32.nearest 21) 21 := (nearest_lit (n := 21) (by decide) rfl).x.cast rfl
  have hi := root_le Y h0 c21 (by decide) (by grind)
  -- the root in units of 1/4096
  obtain ⟨k, k1, k2⟩ : ∃ k : Nat, (k : Rat) / 4096 ≤ ev .f32 (rootN y) ∧ ev .f32 (rootN y) < ((k + 1 : Nat) : Rat) / 4096 := by
    have f1 := Rat.floor_le (ev .f32 (rootN y) * 4096)
    have f2 := Rat.lt_floor_add_one (ev .f32 (rootN y) * 4096)
    have f3 : 0 ≤ (ev .f32 (rootN y) * 4096).floor := Rat.le_floor_iff.2 (by
      show ((0 : Int) : Rat) ≤ _
      have : ((0 : Int) : Rat) = 0 := rfl
      grind)
    obtain ⟨k, hk⟩ := Int.eq_ofNat_of_zero_le f3
    rw [hk] at f1 f2
    refine ⟨k, ?_, ?_⟩
    · have : (((k : Nat) : Int) : Rat) = (k : Rat) := rfl
      grind
    · have : (((k : Nat) : Int) : Rat) = (k : Rat) := rfl
      have : ((k + 1 : Nat) : Rat) = (k : Rat) + 1 := by rw [Rat.natCast_add]; rfl
      grind
  have hk : k ≤ 86016 := by
    have : (k : Rat) ≤ ((86016 : Nat) : Rat) := by
      have : ((86016 : Nat) : Rat) = 86016 := rfl
      grind
    exact Rat.natCast_le_natCast.1 this
  have e12 : ((2 ^ 12 : Nat) : Rat) = 4096 := rfl
  obtain ⟨w, W⟩ := share32 (k + 1) 12 (by omega) (by omega)
  rw [e12] at W
  have tp : (0 : Rat) < ((k + 1 : Nat) : Rat) / 4096 := by grind
  have qt : q ≤ ((k + 1 : Nat) : Rat) / 4096 * (((k + 1 : Nat) : Rat) / 4096) := by
    rcases Rat.le_total (a := q) (b := ((k + 1 : Nat) : Rat) / 4096 * (((k + 1 : Nat) : Rat) / 4096)) with g | g
    · exact g
    · by_cases q0 : 0 < q
      · have := root_ge Y q0 W tp g
        grind
      · have := Rat.mul_pos tp tp
        grind
  obtain ⟨w', W'⟩ := share32 (k + 1) (12 + r) (by omega) (by omega)
  have e12r : ((2 ^ (12 + r) : Nat) : Rat) = 4096 * ((2 ^ r : Nat) : Rat) := by rw [Nat.pow_add, Rat.natCast_mul]; rfl
  have tr : ((k + 1 : Nat) : Rat) / ((2 ^ (12 + r) : Nat) : Rat) = ((k + 1 : Nat) : Rat) / 4096 / ((2 ^ r : Nat) : Rat) := by
    rw [e12r]; grind
  have up := root_le X q4 W' (by
    rw [tr, Rat.div_def]
    exact Rat.mul_pos tp (Rat.inv_pos.2 p2)) (by
    rw [tr, p4]
    generalize ((k + 1 : Nat) : Rat) / 4096 = t at *
    have : q / (((2 ^ r : Nat) : Rat) * ((2 ^ r : Nat) : Rat)) ≤ t * t / (((2 ^ r : Nat) : Rat) * ((2 ^ r : Nat) : Rat)) := by
      rw [Rat.div_def, Rat.div_def]
      exact Rat.mul_le_mul_of_nonneg_right qt (Rat.le_of_lt (Rat.inv_pos.2 (Rat.mul_pos p2 p2)))
    have e : ∀ P : Rat, t / P * (t / P) = t * t / (P * P) := fun P => by
      rw [Rat.div_def, Rat.div_def, Rat.inv_mul_rev]
      generalize P⁻¹ = z
      grind
    rw [e]
    exact this)
  have G := widen_ex (⟨fy, ly, rfl⟩ : Ex .f32 (rootN y) (ev .f32 (rootN y)))
  have c86 : ((86016 : Nat) : Rat) / ((2 ^ 12 : Nat) : Rat) = 21 := by
    have : ((86016 : Nat) : Rat) = 86016 := rfl
    rw [e12, this]; grind
  obtain ⟨gf, gl⟩ := gap_ge r 12 k 86016 _ (by omega) (by omega) (by omega) G.f (by rw [G.e, e12]; exact k1) (by rw [G.e, c86]; exact hi)
  have L := widen_ex (⟨fx, lx, rfl⟩ : Ex .f32 (rootN x) (ev .f32 (rootN x)))
  have cf : fin .f64 4562254508917369340 = true := by decide +kernel
  have S := fadd_rnd gf cf
  have cc : (1 : Rat) / 4096 ≤ ev .f64 4562254508917369340 := by
    have Q1 := q_div (n := 1) (b := 1) 12 (FloatKind.f32.nearest 4096) (by decide) (by decide) (by decide) ((nearest_lit (n := 4096) (by decide) rfl).x.cast rfl)
    have Q2 := widen_ex Q1.x
    have d : fle .f64 (widen (fdiv .f32 (FloatKind.f32.nearest 1) (FloatKind.f32.nearest 4096))) 4562254508917369340 = true := by decide +kernel
    rw [fle_ev Q2.nan (fin_nan cf), decide_eq_true_eq, Q2.e] at d
    exact d
  have one : ((k + 1 : Nat) : Rat) / ((2 ^ (12 + r) : Nat) : Rat) ≤ (k : Rat) / ((2 ^ (12 + r) : Nat) : Rat) + 1 / 4096 := by
    have a : ((k + 1 : Nat) : Rat) = (k : Rat) + 1 := by rw [Rat.natCast_add]; rfl
    have b : (1 : Rat) / ((2 ^ (12 + r) : Nat) : Rat) ≤ 1 / 4096 := by
      have p1 : (1 : Rat) ≤ ((2 ^ r : Nat) : Rat) := by
        have : 1 ≤ 2 ^ r := Nat.one_le_two_pow
        exact Rat.natCast_le_natCast.2 this
      rw [e12r, Rat.div_def, Rat.one_mul, Rat.inv_mul_rev]
      have i1 : ((2 ^ r : Nat) : Rat)⁻¹ ≤ 1 := by
        have := Rat.mul_inv_cancel _ (show ((2 ^ r : Nat) : Rat) ≠ 0 by grind)
        have ip := Rat.inv_pos.2 p2
        have := Rat.mul_le_mul_of_nonneg_right p1 (Rat.le_of_lt ip)
        grind
      grind
    rw [a, Rat.div_def, Rat.add_mul]
    rw [Rat.div_def] at b ⊢
    grind
  have := S.ge L.nan L.l (by rw [L.e]; grind)
  rw [fle_ev L.nan S.nan, decide_eq_true_eq]
  exact this
end Fl
end Go.Ev

/- Lines through shapes: probes, changes of sign, crossings: walks. -/
set_option linter.unusedVariables false
set_option linter.unusedSimpArgs false
set_option maxRecDepth 100000
namespace Go.Proofs.Ytfhpmcdbfebflaa
open Go.Ev Go.Ev.Fl

def betweenV (v w : V3) (k : Nat) : V3 := addV v (scaleV (subV w v) k)
noncomputable def c_impl_BetweenVectors : Ctx := mkC Try.prog tyT [(39, s_impl_LessVectors), (110, s_impl_ScaleVector), (109, s_impl_AddVectors)] [] [] 14 (fun _ => none) 0
theorem w_impl_BetweenVectors (v w : V3) (k : Nat) (K : V → Heap → Prop) : wpFn c_impl_BetweenVectors Try.f105 (encAs [.agg tV, .agg tV, .cell tF] (v, w, k, ())) [] K =
 K (.agg [(.float .f32 (Prod.fst (addV v (scaleV (subV w v) k)))), (.float .f32 (Prod.fst (Prod.snd (addV v (scaleV (subV w v) k))))), (.float .f32 (Prod.snd (Prod.snd (addV v (scaleV (subV w v) k)))))]) [] := by kernel_rfl
noncomputable def s_impl_BetweenVectors : Sm := semT [.agg tV, .agg tV, .cell tF] fun x => match x with | (v, w, k, _) => .agg (enc tV (betweenV v w k))
theorem ok_impl_BetweenVectors : FnOk Try.prog 105 s_impl_BetweenVectors := fnOk_typed (fnOk_runC (C := c_impl_BetweenVectors) rfl mixed (.cons ok_impl_LessVectors (.cons ok_impl_ScaleVector (.cons ok_impl_AddVectors .nil))) .nil .nil Try.func105 (by kernel_rfl)) fun (x : ((V3) × (V3) × (Nat) × Unit)) wf K h => by
  obtain ⟨v, w, k, ⟨⟩⟩ := x
  replace h : K (.agg (enc tV (betweenV v w k))) [] := h
  rw [w_impl_BetweenVectors v w k K]
  exact h

noncomputable def c_spec_l01Narrow : Ctx := mkC Try.prog tyT [] [] [] 5 (fun _ => none) 0
theorem w_spec_l01Narrow (x : Nat) (K : V → Heap → Prop) : wpFn c_spec_l01Narrow Try.f170 (encAs [.cell (.float .f64)] (x, ())) [] K =
 cond (ovf x)
 (K .undef [])
 (K (.float .f32 (narrow x)) []) := by kernel_rfl
noncomputable def s_spec_l01Narrow : Sm := semG [.cell (.float .f64)] (fun x => match x with | (x, _) => !ovf x) fun x => match x with | (x, _) => .float .f32 (narrow x)
theorem ok_spec_l01Narrow : FnOk Try.prog 170 s_spec_l01Narrow := fnOk_typedG (fnOk_runC (C := c_spec_l01Narrow) rfl mixed .nil .nil .nil Try.func170 (by kernel_rfl)) fun (x : ((Nat) × Unit)) wf hg K h => by
  obtain ⟨x, ⟨⟩⟩ := x
  replace hg : (!ovf x) = true := hg
  replace h : K (.float .f32 (narrow x)) [] := h
  rw [w_spec_l01Narrow x K]
  rw [Bool.not_eq_true'] at hg
  rw [hg]
  exact h

noncomputable def c_spec_l01Sqrt : Ctx := mkC Try.prog tyT [(154, s_math_Sqrt), (170, s_spec_l01Narrow)] [] [] 7 (fun _ => none) 0
theorem w_spec_l01Sqrt (x : Nat) (K : V → Heap → Prop) : wpFn c_spec_l01Sqrt Try.f149 (encAs [.cell tF] (x, ())) [] K =
 cond (!ovf (fsqrt FloatKind.f64 (widen x)))
 (K (.float .f32 (narrow (fsqrt FloatKind.f64 (widen x)))) [])
 (False) := by kernel_rfl
noncomputable def s_spec_l01Sqrt : Sm := semT [.cell tF] fun x => match x with | (x, _) => .float .f32 (rootV x)
theorem ok_spec_l01Sqrt : FnOk Try.prog 149 s_spec_l01Sqrt := fnOk_typed (fnOk_runC (C := c_spec_l01Sqrt) rfl mixed (.cons ok_math_Sqrt (.cons ok_spec_l01Narrow .nil)) .nil .nil Try.func149 (by kernel_rfl)) fun (x : ((Nat) × Unit)) wf K h => by
  obtain ⟨x, ⟨⟩⟩ := x
  replace h : K (.float .f32 (rootV x)) [] := h
  rw [w_spec_l01Sqrt x K]
  rw [root_ovf wf.1.1 wf.1.2]
  exact h

noncomputable def c_spec_l01Inner : Ctx := mkC Try.prog tyT [] [] [] 22 (fun _ => none) 0
theorem w_spec_l01Inner (v w : V3) (K : V → Heap → Prop) : wpFn c_spec_l01Inner Try.f150 (encAs [.agg tV, .agg tV] (v, w, ())) [] K =
 K (.float .f32 (fadd FloatKind.f32 (fadd FloatKind.f32 (fmul FloatKind.f32 (Prod.fst v) (Prod.fst w)) (fmul FloatKind.f32 (Prod.fst (Prod.snd v)) (Prod.fst (Prod.snd w)))) (fmul FloatKind.f32 (Prod.snd (Prod.snd v)) (Prod.snd (Prod.snd w))))) [] := by kernel_rfl
noncomputable def s_spec_l01Inner : Sm := semT [.agg tV, .agg tV] fun x => match x with | (v, w, _) => .float .f32 (innerV v w)
theorem ok_spec_l01Inner : FnOk Try.prog 150 s_spec_l01Inner := fnOk_typed (fnOk_runC (C := c_spec_l01Inner) rfl mixed .nil .nil .nil Try.func150 (by kernel_rfl)) fun (x : ((V3) × (V3) × Unit)) wf K h => by
  obtain ⟨v, w, ⟨⟩⟩ := x
  replace h : K (.float .f32 (innerV v w)) [] := h
  rw [w_spec_l01Inner v w K]
  exact h

noncomputable def c_spec_l01Long : Ctx := mkC Try.prog tyT [(150, s_spec_l01Inner), (149, s_spec_l01Sqrt)] [] [] 7 (fun _ => none) 0
theorem w_spec_l01Long (v : V3) (K : V → Heap → Prop) : wpFn c_spec_l01Long Try.f107 (encAs [.agg tV] (v, ())) [] K =
 K (.float .f32 (rootV (innerV v v))) [] := by kernel_rfl
noncomputable def s_spec_l01Long : Sm := semT [.agg tV] fun x => match x with | (v, _) => .float .f32 (longV v)
theorem ok_spec_l01Long : FnOk Try.prog 107 s_spec_l01Long := fnOk_typed (fnOk_runC (C := c_spec_l01Long) rfl mixed (.cons ok_spec_l01Inner (.cons ok_spec_l01Sqrt .nil)) .nil .nil Try.func107 (by kernel_rfl)) fun (x : ((V3) × Unit)) wf K h => by
  obtain ⟨v, ⟨⟩⟩ := x
  replace h : K (.float .f32 (longV v)) [] := h
  rw [w_spec_l01Long v K]
  exact h

noncomputable def c_spec_LongOf : Ctx := mkC Try.prog tyT [(107, s_spec_l01Long)] [] [] 5 (fun _ => none) 0
theorem w_spec_LongOf (v : V3) (K : V → Heap → Prop) : wpFn c_spec_LongOf Try.f51 (encAs [.agg tV] (v, ())) [] K =
 K (.float .f32 (longV v)) [] := by kernel_rfl
noncomputable def s_spec_LongOf : Sm := semT [.agg tV] fun x => match x with | (v, _) => .float .f32 (longV v)
theorem ok_spec_LongOf : FnOk Try.prog 51 s_spec_LongOf := fnOk_typed (fnOk_runC (C := c_spec_LongOf) rfl mixed (.cons ok_spec_l01Long .nil) .nil .nil Try.func51 (by kernel_rfl)) fun (x : ((V3) × Unit)) wf K h => by
  obtain ⟨v, ⟨⟩⟩ := x
  replace h : K (.float .f32 (longV v)) [] := h
  rw [w_spec_LongOf v K]
  exact h

noncomputable def c_spec_l01Less : Ctx := mkC Try.prog tyT [] [] [] 21 (fun _ => none) 0
theorem w_spec_l01Less (v w : V3) (K : V → Heap → Prop) : wpFn c_spec_l01Less Try.f108 (encAs [.agg tV, .agg tV] (v, w, ())) [] K =
 K (.agg [(.float .f32 (fsub FloatKind.f32 (Prod.fst v) (Prod.fst w))), (.float .f32 (fsub FloatKind.f32 (Prod.fst (Prod.snd v)) (Prod.fst (Prod.snd w)))), (.float .f32 (fsub FloatKind.f32 (Prod.snd (Prod.snd v)) (Prod.snd (Prod.snd w))))]) [] := by kernel_rfl
noncomputable def s_spec_l01Less : Sm := semT [.agg tV, .agg tV] fun x => match x with | (v, w, _) => .agg (enc tV (subV v w))
theorem ok_spec_l01Less : FnOk Try.prog 108 s_spec_l01Less := fnOk_typed (fnOk_runC (C := c_spec_l01Less) rfl mixed .nil .nil .nil Try.func108 (by kernel_rfl)) fun (x : ((V3) × (V3) × Unit)) wf K h => by
  obtain ⟨v, w, ⟨⟩⟩ := x
  replace h : K (.agg (enc tV (subV v w))) [] := h
  rw [w_spec_l01Less v w K]
  exact h

noncomputable def c_spec_LessVectors : Ctx := mkC Try.prog tyT [(108, s_spec_l01Less)] [] [] 8 (fun _ => none) 0
theorem w_spec_LessVectors (v w : V3) (K : V → Heap → Prop) : wpFn c_spec_LessVectors Try.f52 (encAs [.agg tV, .agg tV] (v, w, ())) [] K =
 K (.agg [(.float .f32 (Prod.fst (subV v w))), (.float .f32 (Prod.fst (Prod.snd (subV v w)))), (.float .f32 (Prod.snd (Prod.snd (subV v w))))]) [] := by kernel_rfl
noncomputable def s_spec_LessVectors : Sm := semT [.agg tV, .agg tV] fun x => match x with | (v, w, _) => .agg (enc tV (subV v w))
theorem ok_spec_LessVectors : FnOk Try.prog 52 s_spec_LessVectors := fnOk_typed (fnOk_runC (C := c_spec_LessVectors) rfl mixed (.cons ok_spec_l01Less .nil) .nil .nil Try.func52 (by kernel_rfl)) fun (x : ((V3) × (V3) × Unit)) wf K h => by
  obtain ⟨v, w, ⟨⟩⟩ := x
  replace h : K (.agg (enc tV (subV v w))) [] := h
  rw [w_spec_LessVectors v w K]
  exact h

def intV (s : SrcD) (m : Int) : Nat := FloatKind.f32.nearest (pickV s (2 * m + 1) - m)
def intsV (xs : List Int) (m : Int) : V3 := (intV (xs, 0, 0) m, intV (pickS (xs, 0, 0) (2 * m + 1)) m, intV (pickS (pickS (xs, 0, 0) (2 * m + 1)) (2 * m + 1)) m)
noncomputable def c_spec_B10Vector : Ctx := mkC Try.prog tyT [] [] [(67, s_spec_l00From), (70, s_spec_l00Src_pick)] 37 (fun _ => none) 0
theorem w_spec_B10Vector (xs : List Int) (m : Int) (K : V → Heap → Prop) : wpFn c_spec_B10Vector Try.f46 (encAs [.cell tB, .cell (.int .i64)] (xs, m, ())) [] K =
 cond (srcIn 6 (pickS (xs, 0, 0) (IntKind.wrap IntKind.i64 (IntKind.wrap IntKind.i64 (2 * m) + 1))))
 (cond (srcIn 6 (pickS (pickS (xs, 0, 0) (IntKind.wrap IntKind.i64 (IntKind.wrap IntKind.i64 (2 * m) + 1))) (IntKind.wrap IntKind.i64 (IntKind.wrap IntKind.i64 (2 * m) + 1))))
 (K (.agg [(.float .f32 (FloatKind.nearest FloatKind.f32 (IntKind.wrap IntKind.i64 (pickV (xs, 0, 0) (IntKind.wrap IntKind.i64 (IntKind.wrap IntKind.i64 (2 * m) + 1)) - m)))), (.float .f32 (FloatKind.nearest FloatKind.f32 (IntKind.wrap IntKind.i64 (pickV (pickS (xs, 0, 0) (IntKind.wrap IntKind.i64 (IntKind.wrap IntKind.i64 (2 * m) + 1))) (IntKind.wrap IntKind.i64 (IntKind.wrap IntKind.i64 (2 * m) + 1)) - m)))), (.float .f32 (FloatKind.nearest FloatKind.f32 (IntKind.wrap IntKind.i64 (pickV (pickS (pickS (xs, 0, 0) (IntKind.wrap IntKind.i64 (IntKind.wrap IntKind.i64 (2 * m) + 1))) (IntKind.wrap IntKind.i64 (IntKind.wrap IntKind.i64 (2 * m) + 1))) (IntKind.wrap IntKind.i64 (IntKind.wrap IntKind.i64 (2 * m) + 1)) - m))))]) [])
 (False))
 (False) := by kernel_rfl
noncomputable def s_spec_B10Vector : Sm := semG [.cell tB, .cell (.int .i64)] (fun x => match x with | (xs, m, _) => decide (0 ≤ m) && decide (m ≤ 1000000)) fun x => match x with | (xs, m, _) => .agg (enc tV (intsV xs m))
theorem ok_spec_B10Vector : FnOk Try.prog 46 s_spec_B10Vector := fnOk_typedG (fnOk_runC (C := c_spec_B10Vector) rfl mixed .nil .nil (.cons ok_spec_l00From (.cons ok_spec_l00Src_pick .nil)) Try.func46 (by kernel_rfl)) fun (x : ((List Int) × (Int) × Unit)) wf hg K h => by
  obtain ⟨xs, m, ⟨⟩⟩ := x
  replace hg : (decide (0 ≤ m) && decide (m ≤ 1000000)) = true := hg
  replace h : K (.agg (enc tV (intsV xs m))) [] := h
  rw [w_spec_B10Vector xs m K]
  simp only [Bool.and_eq_true, decide_eq_true_eq] at hg
  have b0 : bytes (xs, (0 : Int), (0 : Int)).1 := bytes_of wf.1
  have gi : inS 0 (xs, 0, 0) = true := inS_iff.2 ⟨Int.le_refl _, Int.le_refl _⟩
  have F1 := far_pick (xs, 0, 0) (2 * m + 1)
  have F2 := F1.trans (far_pick _ (2 * m + 1))
  have s0 : srcIn 6 (xs, 0, 0) = true := inS_src gi (by omega) 6 (by omega)
  have s1 : srcIn 6 (pickS (xs, 0, 0) (2 * m + 1)) = true := inS_src (F1.ok gi (m := 2) (by omega)) (by omega) 6 (by omega)
  have s2 : srcIn 6 (pickS (pickS (xs, 0, 0) (2 * m + 1)) (2 * m + 1)) = true := inS_src (F2.ok gi (m := 4) (by omega)) (by omega) 6 (by omega)
  rw [i64_of (n := 2 * m) (by omega) (by omega), i64_of (n := 2 * m + 1) (by omega) (by omega)]
  have b1 : bytes (pickS (xs, 0, 0) (2 * m + 1)).1 := by rw [pickS_1]; exact b0
  have b2 : bytes (pickS (pickS (xs, 0, 0) (2 * m + 1)) (2 * m + 1)).1 := by rw [pickS_1]; exact b1
  have r0 := pickV_range b0 (n := 2 * m + 1) (by omega)
  have r1 := pickV_range b1 (n := 2 * m + 1) (by omega)
  have r2 := pickV_range b2 (n := 2 * m + 1) (by omega)
  rw [s1, s2, i64_of (n := pickV (xs, 0, 0) (2 * m + 1) - m) (by omega) (by omega), i64_of (n := pickV (pickS (xs, 0, 0) (2 * m + 1)) (2 * m + 1) - m) (by omega) (by omega), i64_of (n := pickV (pickS (pickS (xs, 0, 0) (2 * m + 1)) (2 * m + 1)) (2 * m + 1) - m) (by omega) (by omega)]
  exact h

def shareV (k c : Int) : Nat := fdiv .f32 (FloatKind.f32.nearest k) (FloatKind.f32.nearest c)
def probeL (ns : ShapeD) (a b : V3) (c : Int) : Nat → List Nat
  | 0 => []
  | k + 1 => probeL ns a b c k ++ [disV ns (betweenV a b (shareV k c))]
theorem probeL_len (ns : ShapeD) (a b : V3) (c : Int) (k : Nat) : (probeL ns a b c k).length = k := by
  induction k with
  | zero => rfl
  | succ k ih => rw [probeL, List.length_append, ih]; rfl
theorem probeL_get (ns : ShapeD) (a b : V3) (c : Int) (i : Nat) : ∀ k, i < k → (probeL ns a b c k)[i]? = some (disV ns (betweenV a b (shareV i c)))
  | 0, h => by omega
  | k + 1, h => by
    rw [probeL]
    by_cases e : i < k
    · rw [List.getElem?_append_left (by rw [probeL_len]; exact e)]
      exact probeL_get ns a b c i k e
    · have : i = k := by omega
      subst this
      rw [List.getElem?_append_right (by rw [probeL_len]; exact Nat.le_refl _), probeL_len, Nat.sub_self]
      rfl
def probeV (ns : ShapeD) (a b : V3) (c : Int) : List Nat := probeL ns a b c (c.toNat + 1)
noncomputable def a_impl_ProbeLine : Nat → Option Ann := fun n => bif Nat.beq n 5 then some ⟨[3,4,5,6,10,22,23],0,true⟩ else none
noncomputable def c_impl_ProbeLine : Ctx := mkC Try.prog tyT [(33, s_impl_ValidShape), (79, s_impl_in), (105, s_impl_BetweenVectors), (73, s_impl_Shape_at)] [] [] 40 a_impl_ProbeLine 0
noncomputable def fr_impl_ProbeLine_5 (ns : ShapeD) (a w : V3) (c m k : Int) (out : List Nat) : Fr := [(3, .int .i64 c), (4, .ptr 0 0), (5, .ptr 1 0), (6, .ptr 2 0), (10, .obj 3 0), (22, .int .i64 m), (23, .int .i64 k)]
noncomputable def hp_impl_ProbeLine_5 (ns : ShapeD) (a w : V3) (c m k : Int) (out : List Nat) : Heap := [.box [.vec tN ns], .box (enc tV a), .box (enc tV w), .sl 0 tF out]
theorem r_impl_ProbeLine_5 (ns : ShapeD) (a w : V3) (c m k : Int) (out : List Nat) (Kn : Fr → Heap → Prop) (K : V → Heap → Prop) : round c_impl_ProbeLine ⟨[3,4,5,6,10,22,23],0,true⟩ (lb c_impl_ProbeLine 5 Try.f47) (fr_impl_ProbeLine_5 ns a w c m k out) (hp_impl_ProbeLine_5 ns a w c m k out) Kn (lk c_impl_ProbeLine 5 Try.f47 [] K) =
 cond (decide (k < m))
 (cond (okS ns)
 (cond (decide ((List.length out + 1) * 4 ≤ 140737488355328))
 (Kn [(3, (.int .i64 (c))), (4, (.ptr 0 0)), (5, (.ptr 1 0)), (6, (.ptr 2 0)), (10, (.obj 3 0)), (22, (.int .i64 (m))), (23, (.int .i64 (IntKind.wrap IntKind.i64 (k + 1))))] [(.box [(.vec tN (ns))]), (.box [(.float .f32 (Prod.fst a)), (.float .f32 (Prod.fst (Prod.snd a))), (.float .f32 (Prod.snd (Prod.snd a)))]), (.box [(.float .f32 (Prod.fst w)), (.float .f32 (Prod.fst (Prod.snd w))), (.float .f32 (Prod.snd (Prod.snd w)))]), (.sl 0 (.float .f32) (out ++ [disV ns (betweenV a w (fdiv FloatKind.f32 (FloatKind.nearest FloatKind.f32 k) (FloatKind.nearest FloatKind.f32 c)))]))])
 (False))
 (False))
 (K (.tuple [(.vec (.float .f32) (out)), (.bool true)]) []) := by kernel_rfl
theorem w_impl_ProbeLine (ns : ShapeD) (a w : V3) (c : Int) (K : V → Heap → Prop) : wpFn c_impl_ProbeLine Try.f47 (encAs [.agg tS, .agg tV, .agg tV, .cell tI] (ns, a, w, c, ())) [] K =
 cond (!validS ns)
 (K (.tuple [.nils, (.bool false)]) [])
 (cond (!inR c 1 100)
 (K (.tuple [.nils, (.bool false)]) [])
 (LoopE c_impl_ProbeLine ⟨[3, 4, 5, 6, 10, 22, 23], 0, true⟩ (lb c_impl_ProbeLine 5 Try.f47) [(3, (.int .i64 (c))), (4, (.ptr 0 0)), (5, (.ptr 1 0)), (6, (.ptr 2 0)), (10, (.obj 3 0)), (22, (.int .i64 (IntKind.wrap IntKind.i64 (c + 1)))), (23, (.int .i64 0))] [(.box [(.vec tN (ns))]), (.box [(.float .f32 (Prod.fst a)), (.float .f32 (Prod.fst (Prod.snd a))), (.float .f32 (Prod.snd (Prod.snd a)))]), (.box [(.float .f32 (Prod.fst w)), (.float .f32 (Prod.fst (Prod.snd w))), (.float .f32 (Prod.snd (Prod.snd w)))]), (.sl 0 (.float .f32) ([]))] (lk c_impl_ProbeLine 5 Try.f47 [] K))) := by kernel_rfl
noncomputable def s_impl_ProbeLine : Sm := semG [.agg tS, .agg tV, .agg tV, .cell tI] (fun x => match x with | (ns, a, w, c, _) => okS ns && (decide (1 ≤ c) && decide (c ≤ 100))) fun x => match x with | (ns, a, w, c, _) => .tuple [.vec tF (probeV ns a w c), .bool true]
theorem ok_impl_ProbeLine : FnOk Try.prog 47 s_impl_ProbeLine := fnOk_typedG (fnOk_runC (C := c_impl_ProbeLine) rfl mixed (.cons ok_impl_ValidShape (.cons ok_impl_in (.cons ok_impl_BetweenVectors (.cons ok_impl_Shape_at .nil)))) .nil .nil Try.func47 (by kernel_rfl)) fun (x : ((ShapeD) × (V3) × (V3) × (Int) × Unit)) wf hg K h => by
  obtain ⟨ns, a, w, c, ⟨⟩⟩ := x
  replace hg : (okS ns && (decide (1 ≤ c) && decide (c ≤ 100))) = true := hg
  replace h : K (.tuple [.vec tF (probeV ns a w c), .bool true]) [] := h
  rw [w_impl_ProbeLine ns a w c K]
  simp only [Bool.and_eq_true, decide_eq_true_eq] at hg
  obtain ⟨h0, c1, c2⟩ := hg
  obtain ⟨g1, g2, g3, g4⟩ := okS_good h0
  obtain ⟨n, rfl⟩ : ∃ n : Nat, c = (n : Int) := ⟨c.toNat, by omega⟩
  rw [g2, show inR (n : Int) 1 100 = true from inR_iff.2 (by omega), i64_of (n := (n : Int) + 1) (by omega) (by omega)]
  simp only [Bool.not_true, cond_false]
  unfold probeV at h
  rw [Int.toNat_natCast] at h
  refine loop_run (σ := Nat) (fun i => fr_impl_ProbeLine_5 ns a w n ((n : Int) + 1) i []) (fun i => hp_impl_ProbeLine_5 ns a w n ((n : Int) + 1) i (probeL ns a w n i)) (fun i => i ≤ n + 1) (fun i => n + 1 - i) ?_ 0 (Nat.zero_le _)
  intro i hi Kn hk
  rw [show fr_impl_ProbeLine_5 ns a w n ((n : Int) + 1) i [] = fr_impl_ProbeLine_5 ns a w n ((n : Int) + 1) i (probeL ns a w n i) from rfl, r_impl_ProbeLine_5 ns a w n ((n : Int) + 1) i (probeL ns a w n i) Kn K]
  by_cases hlt : i < n + 1
  · have next := hk (i + 1) hlt (by omega)
    rw [d_t (show (i : Int) < (n : Int) + 1 by omega), h0, probeL_len, d_t (show (i + 1) * 4 ≤ 140737488355328 by omega), i64_of (n := (i : Int) + 1) (by omega) (by omega)]
    exact next
  · have : i = n + 1 := by omega
    subst this
    rw [d_f (show ¬ ((n + 1 : Nat) : Int) < (n : Int) + 1 by omega)]
    exact h

def chAt (xs : List Nat) (i : Nat) : Bool := flt .f32 (nt xs i) 0 != flt .f32 (nt xs (i + 1)) 0
def chL (xs : List Nat) : Nat → List Int
  | 0 => []
  | i + 1 => bif chAt xs i then chL xs i ++ [(i : Int)] else chL xs i
theorem chL_len (xs : List Nat) (i : Nat) : (chL xs i).length ≤ i := by
  induction i with
  | zero => exact Nat.le_refl _
  | succ i ih =>
    rw [chL]
    cases chAt xs i <;> simp only [cond_true, cond_false, List.length_append, List.length_singleton] <;> omega
theorem chL_pre (xs : List Nat) {i n : Nat} (h : i ≤ n) : ∃ t, chL xs n = chL xs i ++ t := by
  induction n with
  | zero => exact ⟨[], by rw [show i = 0 by omega]; rfl⟩
  | succ n ih =>
    by_cases e : i = n + 1
    · exact ⟨[], by rw [e, List.append_nil]⟩
    · obtain ⟨t, ht⟩ := ih (by omega)
      rw [chL, ht]
      cases chAt xs n
      · exact ⟨t, rfl⟩
      · exact ⟨t ++ [(n : Int)], by simp only [cond_true, List.append_assoc]⟩
theorem chL_at (xs : List Nat) {i n : Nat} (h : i < n) (hc : chAt xs i = true) : (chL xs n)[(chL xs i).length]? = some (i : Int) := by
  obtain ⟨t, ht⟩ := chL_pre xs (i := i + 1) (n := n) h
  rw [ht, chL, hc, cond_true, List.append_assoc, List.getElem?_append_right (Nat.le_refl _), Nat.sub_self]
  rfl
def chV (xs : List Nat) : List Int := chL xs (xs.length - 1)
noncomputable def c_impl_listOk : Ctx := mkC Try.prog tyT [] [] [] 6 (fun _ => none) 0
theorem w_impl_listOk (xs : List Nat) (K : V → Heap → Prop) : wpFn c_impl_listOk Try.f106 (encAs [.cell (.slice tF)] (xs, ())) [] K =
 K (.bool (decide ((↑(List.length xs) : Int) ≤ 256))) [] := by kernel_rfl
noncomputable def s_impl_listOk : Sm := semT [.cell (.slice tF)] fun x => match x with | (xs, _) => .bool (decide ((xs.length : Int) ≤ 256))
theorem ok_impl_listOk : FnOk Try.prog 106 s_impl_listOk := fnOk_typed (fnOk_runC (C := c_impl_listOk) rfl mixed .nil .nil .nil Try.func106 (by kernel_rfl)) fun (x : ((List Nat) × Unit)) wf K h => by
  obtain ⟨xs, ⟨⟩⟩ := x
  replace h : K (.bool (decide ((xs.length : Int) ≤ 256))) [] := h
  rw [w_impl_listOk xs K]
  exact h

noncomputable def a_impl_SignChanges : Nat → Option Ann := fun n => bif Nat.beq n 5 then some ⟨[0,4,5],0,true⟩ else none
noncomputable def c_impl_SignChanges : Ctx := mkC Try.prog tyT [(106, s_impl_listOk)] [] [] 34 a_impl_SignChanges 0
noncomputable def fr_impl_SignChanges_5 (xs : List Nat) (out : List Int) (i : Int) : Fr := [(0, .vec tF xs), (4, .obj 0 0), (5, .int .i64 i)]
noncomputable def hp_impl_SignChanges_5 (xs : List Nat) (out : List Int) (i : Int) : Heap := [.sl 0 tI out]
theorem r_impl_SignChanges_5 (xs : List Nat) (out : List Int) (i : Int) (Kn : Fr → Heap → Prop) (K : V → Heap → Prop) : round c_impl_SignChanges ⟨[0,4,5],0,true⟩ (lb c_impl_SignChanges 5 Try.f48) (fr_impl_SignChanges_5 xs out i) (hp_impl_SignChanges_5 xs out i) Kn (lk c_impl_SignChanges 5 Try.f48 [] K) =
  cond (decide (i < (↑(List.length xs) : Int)))
    (cond (decide (0 ≤ IntKind.wrap IntKind.i64 (i - 1)))
      ((match xs[Int.toNat (IntKind.wrap IntKind.i64 (i - 1))]? with
        | some y0 => cond (decide (0 ≤ i))
          ((match xs[Int.toNat i]? with
            | some y1 => cond (flt FloatKind.f32 y0 0 != flt FloatKind.f32 y1 0)
              (cond (decide ((List.length out + 1) * 8 ≤ 140737488355328))
                (Kn [(0, (.vec (.float .f32) (xs))), (4, (.obj 0 0)), (5, (.int .i64 (IntKind.wrap IntKind.i64 (i + 1))))] [(.sl 0 (.int .i64) (out ++ [IntKind.wrap IntKind.i64 (i - (1 : Int))]))])
                (False))
              (Kn [(0, (.vec (.float .f32) (xs))), (4, (.obj 0 0)), (5, (.int .i64 (IntKind.wrap IntKind.i64 (i + 1))))] [(.sl 0 (.int .i64) (out))])
            | none => False))
          (False)
        | none => False))
      (False))
    (K (.tuple [(.vec (.int .i64) (out)), (.bool true)]) []) := by kernel_rfl
theorem w_impl_SignChanges (xs : List Nat) (K : V → Heap → Prop) : wpFn c_impl_SignChanges Try.f48 (encAs [.cell (.slice tF)] (xs, ())) [] K =
 cond (!decide ((↑(List.length xs) : Int) ≤ 256))
 (K (.tuple [.nils, (.bool false)]) [])
 (LoopE c_impl_SignChanges ⟨[0, 4, 5], 0, true⟩ (lb c_impl_SignChanges 5 Try.f48) [(0, (.vec (.float .f32) (xs))), (4, (.obj 0 0)), (5, (.int .i64 1))] [(.sl 0 (.int .i64) ([]))] (lk c_impl_SignChanges 5 Try.f48 [] K)) := by kernel_rfl
noncomputable def s_impl_SignChanges : Sm := semG [.cell (.slice tF)] (fun x => match x with | (xs, _) => decide ((xs.length : Int) ≤ 256)) fun x => match x with | (xs, _) => .tuple [.vec tI (chV xs), .bool true]
theorem ok_impl_SignChanges : FnOk Try.prog 48 s_impl_SignChanges := fnOk_typedG (fnOk_runC (C := c_impl_SignChanges) rfl mixed (.cons ok_impl_listOk .nil) .nil .nil Try.func48 (by kernel_rfl)) fun (x : ((List Nat) × Unit)) wf hg K h => by
  obtain ⟨xs, ⟨⟩⟩ := x
  replace hg : (decide ((xs.length : Int) ≤ 256)) = true := hg
  replace h : K (.tuple [.vec tI (chV xs), .bool true]) [] := h
  rw [w_impl_SignChanges xs K]
  have hl := of_decide_eq_true hg
  rw [hg]
  simp only [Bool.not_true, cond_false]
  by_cases h1 : xs.length = 0
  · have : xs = [] := List.eq_nil_of_length_eq_zero h1
    subst this
    refine loop_run (σ := Unit) (fun _ => fr_impl_SignChanges_5 [] [] 1) (fun _ => hp_impl_SignChanges_5 [] [] 1) (fun _ => True) (fun _ => 0) ?_ () trivial
    intro _ _ Kn hk
    rw [r_impl_SignChanges_5 [] [] 1 Kn K]
    exact h
  unfold chV at h
  refine loop_run (σ := Nat) (fun i => fr_impl_SignChanges_5 xs [] ((i + 1 : Nat) : Int)) (fun i => hp_impl_SignChanges_5 xs (chL xs i) ((i + 1 : Nat) : Int)) (fun i => i + 1 ≤ xs.length) (fun i => xs.length - i) ?_ 0 (by omega)
  intro i hi Kn hk
  rw [show fr_impl_SignChanges_5 xs [] ((i + 1 : Nat) : Int) = fr_impl_SignChanges_5 xs (chL xs i) ((i + 1 : Nat) : Int) from rfl, r_impl_SignChanges_5 xs (chL xs i) ((i + 1 : Nat) : Int) Kn K]
  by_cases hlt : i + 1 < xs.length
  · have next := hk (i + 1) (by omega) (by omega)
    have n1 : nt xs i = xs[i]'(by omega) := by unfold nt; rw [get_lt (show i < xs.length by omega)]; rfl
    have n2 : nt xs (i + 1) = xs[i + 1]'hlt := by unfold nt; rw [get_lt hlt]; rfl
    have hc : chAt xs i = (flt .f32 (xs[i]'(by omega)) 0 != flt .f32 (xs[i + 1]'hlt) 0) := by unfold chAt; rw [n1, n2]
    have hll := chL_len xs i
    rw [chL, hc] at next
    have w1 : IntKind.i64.wrap (((i + 1 : Nat) : Int) - 1) = (i : Int) := by rw [i64_of (by omega) (by omega)]; omega
    have w2 : IntKind.i64.wrap (((i + 1 : Nat) : Int) + 1) = ((i + 1 + 1 : Nat) : Int) := i64_of (by omega) (by omega)
    simp only [d_t (show ((i + 1 : Nat) : Int) < (xs.length : Int) by omega), w1, w2, d_0, cond_true, Int.toNat_natCast, get_lt (show i < xs.length by omega), get_lt hlt, d_t (show ((chL xs i).length + 1) * 8 ≤ 140737488355328 by omega)]
    generalize (flt .f32 (xs[i]'(by omega)) 0 != flt .f32 (xs[i + 1]'hlt) 0) = c at *
    cases c
    · exact next
    · exact next
  · have e : i = xs.length - 1 := by omega
    rw [d_f (show ¬ ((i + 1 : Nat) : Int) < (xs.length : Int) by omega), e]
    exact h

noncomputable def c_laws_b10Alike : Ctx := mkC Try.prog tyT [] [] [] 18 (fun _ => none) 0
theorem w_laws_b10Alike (x y : Nat) (K : V → Heap → Prop) : wpFn c_laws_b10Alike Try.f49 (encAs [.cell tF, .cell tF] (x, y, ())) [] K =
 cond (feq FloatKind.f32 x y)
 (K (.bool true) [])
 (cond (!feq FloatKind.f32 x x)
 (K (.bool (!feq FloatKind.f32 y y)) [])
 (K (.bool false) [])) := by kernel_rfl
noncomputable def s_laws_b10Alike : Sm := semT [.cell tF, .cell tF] fun x => match x with | (x, y, _) => .bool (feq .f32 x y || (!feq .f32 x x && !feq .f32 y y))
theorem ok_laws_b10Alike : FnOk Try.prog 49 s_laws_b10Alike := fnOk_typed (fnOk_runC (C := c_laws_b10Alike) rfl mixed .nil .nil .nil Try.func49 (by kernel_rfl)) fun (x : ((Nat) × (Nat) × Unit)) wf K h => by
  obtain ⟨x, y, ⟨⟩⟩ := x
  replace h : K (.bool (feq .f32 x y || (!feq .f32 x x && !feq .f32 y y))) [] := h
  rw [w_laws_b10Alike x y K]
  cases e1 : feq .f32 x y <;> rw [e1] at h
  · cases e2 : feq .f32 x x <;> rw [e2] at h <;> exact h
  · exact h

def crossGo (ns : ShapeD) (c : Bool) : Nat → V3 → V3 → V3 × V3
  | 0, a, w => (a, w)
  | n + 1, a, w => bif flt .f32 (disV ns (betweenV a w 1056964608)) 0 == c then crossGo ns c n (betweenV a w 1056964608) w else crossGo ns c n a (betweenV a w 1056964608)
def crossV (ns : ShapeD) (a w : V3) (r : Int) : V3 × V3 := bif flt .f32 (disV ns a) 0 == flt .f32 (disV ns w) 0 then ((0, 0, 0), (0, 0, 0)) else crossGo ns (flt .f32 (disV ns a) 0) r.toNat a w
noncomputable def a_impl_CrossingAt : Nat → Option Ann := fun n => bif Nat.beq n 5 then some ⟨[4,5,6,8,9,11,35,36],0,true⟩ else none
noncomputable def c_impl_CrossingAt : Ctx := mkC Try.prog tyT [(33, s_impl_ValidShape), (79, s_impl_in), (105, s_impl_BetweenVectors), (73, s_impl_Shape_at)] [] [] 51 a_impl_CrossingAt 0 false [] false true true []
noncomputable def fr_impl_CrossingAt_5 (ns : ShapeD) (a w : V3) (c : Bool) (m k : Int) : Fr := [(4, .ptr 0 0), (5, .ptr 1 0), (6, .ptr 2 0), (8, .ptr 3 0), (9, .ptr 4 0), (11, .bool c), (35, .int .i64 m), (36, .int .i64 k)]
noncomputable def hp_impl_CrossingAt_5 (ns : ShapeD) (a w : V3) (c : Bool) (m k : Int) : Heap := [.box [.vec tN ns], .box (enc tV a), .box (enc tV w), .box [.float .f32 0, .float .f32 0, .float .f32 0], .box [.float .f32 0, .float .f32 0, .float .f32 0]]
theorem r_impl_CrossingAt_5 (ns : ShapeD) (a w : V3) (c : Bool) (m k : Int) (Kn : Fr → Heap → Prop) (K : V → Heap → Prop) : round c_impl_CrossingAt ⟨[4,5,6,8,9,11,35,36],0,true⟩ (lb c_impl_CrossingAt 5 Try.f50) (fr_impl_CrossingAt_5 ns a w c m k) (hp_impl_CrossingAt_5 ns a w c m k) Kn (lk c_impl_CrossingAt 5 Try.f50 [] K) =
 cond (decide (k < m))
 (cond (okS ns)
 (cond (flt FloatKind.f32 (disV ns (betweenV a w 1056964608)) 0 == c)
 (Kn [(4, (.ptr 0 0)), (5, (.ptr 1 0)), (6, (.ptr 2 0)), (8, (.ptr 3 0)), (9, (.ptr 4 0)), (11, (.bool (c))), (35, (.int .i64 (m))), (36, (.int .i64 (IntKind.wrap IntKind.i64 (k + 1))))] [(.box [(.vec tN (ns))]), (.box [(.float .f32 (Prod.fst (betweenV a w 1056964608))), (.float .f32 (Prod.fst (Prod.snd (betweenV a w 1056964608)))), (.float .f32 (Prod.snd (Prod.snd (betweenV a w 1056964608))))]), (.box [(.float .f32 (Prod.fst w)), (.float .f32 (Prod.fst (Prod.snd w))), (.float .f32 (Prod.snd (Prod.snd w)))]), (.box [(.float .f32 0), (.float .f32 0), (.float .f32 0)]), (.box [(.float .f32 0), (.float .f32 0), (.float .f32 0)])])
 (Kn [(4, (.ptr 0 0)), (5, (.ptr 1 0)), (6, (.ptr 2 0)), (8, (.ptr 3 0)), (9, (.ptr 4 0)), (11, (.bool (c))), (35, (.int .i64 (m))), (36, (.int .i64 (IntKind.wrap IntKind.i64 (k + 1))))] [(.box [(.vec tN (ns))]), (.box [(.float .f32 (Prod.fst a)), (.float .f32 (Prod.fst (Prod.snd a))), (.float .f32 (Prod.snd (Prod.snd a)))]), (.box [(.float .f32 (Prod.fst (betweenV a w 1056964608))), (.float .f32 (Prod.fst (Prod.snd (betweenV a w 1056964608)))), (.float .f32 (Prod.snd (Prod.snd (betweenV a w 1056964608))))]), (.box [(.float .f32 0), (.float .f32 0), (.float .f32 0)]), (.box [(.float .f32 0), (.float .f32 0), (.float .f32 0)])]))
 (False))
 (K (.tuple [(.agg [(.float .f32 (Prod.fst a)), (.float .f32 (Prod.fst (Prod.snd a))), (.float .f32 (Prod.snd (Prod.snd a)))]), (.agg [(.float .f32 (Prod.fst w)), (.float .f32 (Prod.fst (Prod.snd w))), (.float .f32 (Prod.snd (Prod.snd w)))]), (.bool true)]) []) := by kernel_rfl
theorem w_impl_CrossingAt (ns : ShapeD) (a w : V3) (r : Int) (K : V → Heap → Prop) : wpFn c_impl_CrossingAt Try.f50 (encAs [.agg tS, .agg tV, .agg tV, .cell tI] (ns, a, w, r, ())) [] K =
 cond (!validS ns)
 (K (.tuple [(.agg [(.float .f32 0), (.float .f32 0), (.float .f32 0)]), (.agg [(.float .f32 0), (.float .f32 0), (.float .f32 0)]), (.bool false)]) [])
 (cond (!inR r 0 60)
 (K (.tuple [(.agg [(.float .f32 0), (.float .f32 0), (.float .f32 0)]), (.agg [(.float .f32 0), (.float .f32 0), (.float .f32 0)]), (.bool false)]) [])
 (cond (okS ns)
 (cond (okS ns)
 (cond (flt FloatKind.f32 (disV ns a) 0 == flt FloatKind.f32 (disV ns w) 0)
 (K (.tuple [(.agg [(.float .f32 0), (.float .f32 0), (.float .f32 0)]), (.agg [(.float .f32 0), (.float .f32 0), (.float .f32 0)]), (.bool false)]) [])
 (cond (okS ns)
 (LoopE c_impl_CrossingAt ⟨[4, 5, 6, 8, 9, 11, 35, 36], 0, true⟩ (lb c_impl_CrossingAt 5 Try.f50) [(4, (.ptr 0 0)), (5, (.ptr 1 0)), (6, (.ptr 2 0)), (8, (.ptr 3 0)), (9, (.ptr 4 0)), (11, (.bool (flt FloatKind.f32 (disV ns a) 0))), (35, (.int .i64 (r))), (36, (.int .i64 0))] [(.box [(.vec tN (ns))]), (.box [(.float .f32 (Prod.fst a)), (.float .f32 (Prod.fst (Prod.snd a))), (.float .f32 (Prod.snd (Prod.snd a)))]), (.box [(.float .f32 (Prod.fst w)), (.float .f32 (Prod.fst (Prod.snd w))), (.float .f32 (Prod.snd (Prod.snd w)))]), (.box [(.float .f32 0), (.float .f32 0), (.float .f32 0)]), (.box [(.float .f32 0), (.float .f32 0), (.float .f32 0)])] (lk c_impl_CrossingAt 5 Try.f50 [] K))
 (False)))
 (False))
 (False))) := by kernel_rfl
noncomputable def s_impl_CrossingAt : Sm := semG [.agg tS, .agg tV, .agg tV, .cell tI] (fun x => match x with | (ns, a, w, r, _) => okS ns && (decide (0 ≤ r) && decide (r ≤ 60))) fun x => match x with | (ns, a, w, r, _) => .tuple [.agg (enc tV (crossV ns a w r).1), .agg (enc tV (crossV ns a w r).2), .bool (!(flt .f32 (disV ns a) 0 == flt .f32 (disV ns w) 0))]
theorem ok_impl_CrossingAt : FnOk Try.prog 50 s_impl_CrossingAt := fnOk_typedG (fnOk_runC (C := c_impl_CrossingAt) rfl mixed (.cons ok_impl_ValidShape (.cons ok_impl_in (.cons ok_impl_BetweenVectors (.cons ok_impl_Shape_at .nil)))) .nil .nil Try.func50 (by kernel_rfl)) fun (x : ((ShapeD) × (V3) × (V3) × (Int) × Unit)) wf hg K h => by
  obtain ⟨ns, a, w, r, ⟨⟩⟩ := x
  replace hg : (okS ns && (decide (0 ≤ r) && decide (r ≤ 60))) = true := hg
  replace h : K (.tuple [.agg (enc tV (crossV ns a w r).1), .agg (enc tV (crossV ns a w r).2), .bool (!(flt .f32 (disV ns a) 0 == flt .f32 (disV ns w) 0))]) [] := h
  rw [w_impl_CrossingAt ns a w r K]
  simp only [Bool.and_eq_true, decide_eq_true_eq] at hg
  obtain ⟨h0, c1, c2⟩ := hg
  obtain ⟨g1, g2, g3, g4⟩ := okS_good h0
  obtain ⟨n, rfl⟩ : ∃ n : Nat, r = (n : Int) := ⟨r.toNat, by omega⟩
  rw [g2, show inR (n : Int) 0 60 = true from inR_iff.2 (by omega), h0]
  simp only [Bool.not_true, cond_false, cond_true]
  cases hd : (flt .f32 (disV ns a) 0 == flt .f32 (disV ns w) 0) with
  | true =>
    unfold crossV at h
    rw [hd] at h
    exact h
  | false =>
    have hx : crossV ns a w n = crossGo ns (flt .f32 (disV ns a) 0) n a w := by unfold crossV; rw [hd]; rfl
    rw [hx, hd] at h
    clear hd hx
    simp only [cond_false]
    generalize flt .f32 (disV ns a) 0 = c at *
    refine loop_run (σ := Nat × V3 × V3) (fun q => fr_impl_CrossingAt_5 ns a w c n q.1) (fun q => hp_impl_CrossingAt_5 ns q.2.1 q.2.2 c n q.1) (fun q => q.1 ≤ n ∧ crossGo ns c (n - q.1) q.2.1 q.2.2 = crossGo ns c n a w) (fun q => n - q.1) ?_ (0, a, w) ⟨Nat.zero_le _, rfl⟩
    rintro ⟨i, p, q⟩ ⟨hi, hc⟩ Kn hk
    simp only at hi hc hk ⊢
    rw [show fr_impl_CrossingAt_5 ns a w c n i = fr_impl_CrossingAt_5 ns p q c n i from rfl, r_impl_CrossingAt_5 ns p q c n i Kn K]
    by_cases hlt : i < n
    · have e : n - i = (n - (i + 1)) + 1 := by omega
      have hs : crossGo ns c (n - i) p q = bif flt .f32 (disV ns (betweenV p q 1056964608)) 0 == c then crossGo ns c (n - (i + 1)) (betweenV p q 1056964608) q else crossGo ns c (n - (i + 1)) p (betweenV p q 1056964608) := by rw [e]; rfl
      rw [hs] at hc
      rw [d_t (show (i : Int) < (n : Int) by omega), h0, i64_of (n := (i : Int) + 1) (by omega) (by omega)]
      simp only [cond_true]
      cases ht : (flt .f32 (disV ns (betweenV p q 1056964608)) 0 == c) with
      | true =>
        rw [ht] at hc
        exact hk (i + 1, betweenV p q 1056964608, q) ⟨hlt, hc⟩ (by simp only; omega)
      | false =>
        rw [ht] at hc
        exact hk (i + 1, p, betweenV p q 1056964608) ⟨hlt, hc⟩ (by simp only; omega)
    · have e : i = n := by omega
      subst e
      rw [Nat.sub_self] at hc
      have hc : (p, q) = crossGo ns c i a w := hc
      rw [d_f (show ¬ (i : Int) < (i : Int) by omega)]
      rw [← hc] at h
      exact h

end Go.Proofs.Ytfhpmcdbfebflaa

/- Plain: probes begin and end with the ends; crossings keep their sides and come nearer. -/
set_option linter.unusedVariables false
set_option linter.unusedSimpArgs false
set_option maxRecDepth 100000
namespace Go.Proofs.Ytfhpmcdbfebflaa
open Go.Ev Go.Ev.Fl

def btw (x y k : Nat) : Nat := fadd .f32 x (fmul .f32 (fsub .f32 y x) k)
theorem tab_btw : (List.range 13).all (fun i => (List.range 13).all fun j => Nat.beq (btw (FloatKind.f32.nearest (Int.ofNat i - 6)) (FloatKind.f32.nearest (Int.ofNat j - 6)) 0) (FloatKind.f32.nearest (Int.ofNat i - 6)) && Nat.beq (btw (FloatKind.f32.nearest (Int.ofNat i - 6)) (FloatKind.f32.nearest (Int.ofNat j - 6)) 1065353216) (FloatKind.f32.nearest (Int.ofNat j - 6))) = true := by decide +kernel
theorem tab_share : (List.range 20).all (fun i => Nat.beq (shareV 0 (1 + Int.ofNat i)) 0 && Nat.beq (shareV (1 + Int.ofNat i) (1 + Int.ofNat i)) 1065353216) = true := by decide +kernel
theorem btw_ends {a c : Int} (ha : -6 ≤ a ∧ a ≤ 6) (hc : -6 ≤ c ∧ c ≤ 6) : btw (FloatKind.f32.nearest a) (FloatKind.f32.nearest c) 0 = FloatKind.f32.nearest a ∧ btw (FloatKind.f32.nearest a) (FloatKind.f32.nearest c) 1065353216 = FloatKind.f32.nearest c := by
  have h1 := List.all_eq_true.1 tab_btw (a + 6).toNat (by simp; omega)
  have h2 := List.all_eq_true.1 h1 (c + 6).toNat (by simp; omega)
  have ea : Int.ofNat (a + 6).toNat - 6 = a := by have : Int.ofNat (a + 6).toNat = ((a + 6).toNat : Int) := rfl; omega
  have ec : Int.ofNat (c + 6).toNat - 6 = c := by have : Int.ofNat (c + 6).toNat = ((c + 6).toNat : Int) := rfl; omega
  rw [ea, ec, Bool.and_eq_true] at h2
  exact ⟨Nat.eq_of_beq_eq_true h2.1, Nat.eq_of_beq_eq_true h2.2⟩
theorem share_ends {n : Int} (h : 1 ≤ n ∧ n ≤ 20) : shareV 0 n = 0 ∧ shareV n n = 1065353216 := by
  have h1 := List.all_eq_true.1 tab_share (n - 1).toNat (by simp; omega)
  have e : 1 + Int.ofNat (n - 1).toNat = n := by have : Int.ofNat (n - 1).toNat = ((n - 1).toNat : Int) := rfl; omega
  rw [e, Bool.and_eq_true] at h1
  exact ⟨Nat.eq_of_beq_eq_true h1.1, Nat.eq_of_beq_eq_true h1.2⟩
structure IV (p : V3) (a : Int × Int × Int) : Prop where
  x : p.1 = FloatKind.f32.nearest a.1 ∧ -6 ≤ a.1 ∧ a.1 ≤ 6
  y : p.2.1 = FloatKind.f32.nearest a.2.1 ∧ -6 ≤ a.2.1 ∧ a.2.1 ≤ 6
  z : p.2.2 = FloatKind.f32.nearest a.2.2 ∧ -6 ≤ a.2.2 ∧ a.2.2 ≤ 6
theorem ints_iv {xs : List Int} (hb : bytes xs) : ∃ a, IV (intsV xs 6) a := by
  have b1 := (far_pick (xs, 0, 0) (2 * 6 + 1)).bytes hb
  have b2 := (far_pick (pickS (xs, 0, 0) (2 * 6 + 1)) (2 * 6 + 1)).bytes b1
  have r0 := pickV_range (s := (xs, 0, 0)) hb (n := 2 * 6 + 1) (by omega)
  have r1 := pickV_range b1 (n := 2 * 6 + 1) (by omega)
  have r2 := pickV_range b2 (n := 2 * 6 + 1) (by omega)
  exact ⟨(_, _, _), ⟨rfl, by simp only; omega, by simp only; omega⟩, ⟨rfl, by simp only; omega, by simp only; omega⟩, ⟨rfl, by simp only; omega, by simp only; omega⟩⟩
theorem between_ends {p q : V3} {a c : Int × Int × Int} (hp : IV p a) (hq : IV q c) : betweenV p q 0 = p ∧ betweenV p q 1065353216 = q := by
  obtain ⟨x1, x2, x3⟩ := p
  obtain ⟨y1, y2, y3⟩ := q
  obtain ⟨⟨e1, i1⟩, ⟨e2, i2⟩, ⟨e3, i3⟩⟩ := hp
  obtain ⟨⟨f1, j1⟩, ⟨f2, j2⟩, ⟨f3, j3⟩⟩ := hq
  simp only at e1 e2 e3 f1 f2 f3 i1 i2 i3 j1 j2 j3
  have k1 := btw_ends i1 j1
  have k2 := btw_ends i2 j2
  have k3 := btw_ends i3 j3
  rw [← e1, ← f1] at k1
  rw [← e2, ← f2] at k2
  rw [← e3, ← f3] at k3
  exact ⟨Prod.ext k1.1 (Prod.ext k2.1 k3.1), Prod.ext k1.2 (Prod.ext k2.2 k3.2)⟩

structure Cd (r : Nat) (x : Nat) (n : Int) : Prop where
  e : Ex .f32 x ((n : Rat) / ((2 ^ r : Nat) : Rat))
  b : n.natAbs ≤ 6 * 2 ^ r
theorem p2_ne (r : Nat) : ((2 ^ r : Nat) : Rat) ≠ 0 := by have := pow_pos2 r; grind
theorem gr_share (r : Nat) (n : Int) {b : Nat} (h : n.natAbs ≤ b) : Gr r b ((n : Rat) / ((2 ^ r : Nat) : Rat)) := ⟨n, Rat.div_mul_cancel (p2_ne r), h⟩
theorem half_ex : Ex .f32 1056964608 (1 / 2) := by
  have h := q_div (n := 1) (b := 1) 1 1073741824 (by decide) (by decide) (by decide) (q_two.x.cast rfl)
  rw [show fdiv .f32 (FloatKind.f32.nearest 1) 1073741824 = 1056964608 by decide +kernel] at h
  exact h.x.cast rfl
theorem Cd.up {r x : Nat} {n : Int} (h : Cd r x n) : Cd (r + 1) x (2 * n) := by
  refine ⟨h.e.cast ?_, by have := h.b; rw [Nat.pow_succ]; omega⟩
  rw [pow_succ2, Rat.intCast_mul]
  have := p2_ne r
  have : ((2 : Int) : Rat) = 2 := rfl
  grind
theorem Cd.mid {r x y : Nat} {n m : Int} (h : Cd r x n) (h' : Cd r y m) (hr : r ≤ 12) : Cd (r + 1) (btw x y 1056964608) (n + m) := by
  have p : 2 ^ r ≤ 4096 := Nat.pow_le_pow_right (by omega) hr (n := 2)
  have b1 := h.b
  have b2 := h'.b
  have S := h'.e.sub h.e ((show Gr r (12 * 2 ^ r) ((m : Rat) / ((2 ^ r : Nat) : Rat) - (n : Rat) / ((2 ^ r : Nat) : Rat)) from ((gr_share r m b2).sub (gr_share r n b1)).le (by omega)).rep32 (by omega) (by omega))
  have e1 : ((m : Rat) / ((2 ^ r : Nat) : Rat) - (n : Rat) / ((2 ^ r : Nat) : Rat)) * (1 / 2) = ((m - n : Int) : Rat) / ((2 ^ (r + 1) : Nat) : Rat) := by
    rw [pow_succ2, Rat.intCast_sub]
    have := p2_ne r
    grind
  have M := S.mul half_ex (by rw [e1]; exact (gr_share (r + 1) (m - n) (b := 12 * 2 ^ r) (by omega)).rep32 (by omega) (by omega))
  rw [e1] at M
  have e2 : (n : Rat) / ((2 ^ r : Nat) : Rat) + ((m - n : Int) : Rat) / ((2 ^ (r + 1) : Nat) : Rat) = ((n + m : Int) : Rat) / ((2 ^ (r + 1) : Nat) : Rat) := by
    rw [pow_succ2, Rat.intCast_sub, Rat.intCast_add]
    have := p2_ne r
    grind
  have hb : (n + m).natAbs ≤ 6 * 2 ^ (r + 1) := by rw [Nat.pow_succ]; omega
  have A := h.e.add M (by rw [e2]; exact (gr_share (r + 1) (n + m) hb).rep32 (by rw [Nat.pow_succ]; omega) (by omega))
  rw [e2] at A
  exact ⟨A, hb⟩
structure CV (r : Nat) (p : V3) (a : Int × Int × Int) : Prop where
  x : Cd r p.1 a.1
  y : Cd r p.2.1 a.2.1
  z : Cd r p.2.2 a.2.2
theorem iv_cv {p : V3} {a : Int × Int × Int} (h : IV p a) : CV 0 p a := by
  have f : ∀ {x : Nat} {n : Int}, x = FloatKind.f32.nearest n ∧ -6 ≤ n ∧ n ≤ 6 → Cd 0 x n := fun {x n} ⟨e, l, u⟩ => by
    subst e
    refine ⟨(nearest_lit n (by omega) rfl).x.cast ?_, by show n.natAbs ≤ 6 * 1; omega⟩
    have : ((2 ^ 0 : Nat) : Rat) = 1 := rfl
    rw [this]; grind
  exact ⟨f h.x, f h.y, f h.z⟩
abbrev dI3 (a c d : Int × Int × Int) : Prop := c.1 - a.1 = d.1 ∧ c.2.1 - a.2.1 = d.2.1 ∧ c.2.2 - a.2.2 = d.2.2
theorem cross_ok (ns : ShapeD) (cc : Bool) (d : Int × Int × Int) : ∀ (n r : Nat) (p q : V3) (a c : Int × Int × Int), r + n ≤ 12 → CV r p a → CV r q c → dI3 a c d → flt .f32 (disV ns p) 0 = cc → flt .f32 (disV ns q) 0 = !cc →
    ∃ a' c', CV (r + n) (crossGo ns cc n p q).1 a' ∧ CV (r + n) (crossGo ns cc n p q).2 c' ∧ dI3 a' c' d ∧ flt .f32 (disV ns (crossGo ns cc n p q).1) 0 = cc ∧ flt .f32 (disV ns (crossGo ns cc n p q).2) 0 = !cc
  | 0, r, p, q, a, c, h, hp, hq, hd, h1, h2 => ⟨a, c, hp, hq, hd, h1, h2⟩
  | n + 1, r, p, q, a, c, h, hp, hq, hd, h1, h2 => by
    have M : CV (r + 1) (betweenV p q 1056964608) (a.1 + c.1, a.2.1 + c.2.1, a.2.2 + c.2.2) := ⟨hp.x.mid hq.x (by omega), hp.y.mid hq.y (by omega), hp.z.mid hq.z (by omega)⟩
    have P : CV (r + 1) p (2 * a.1, 2 * a.2.1, 2 * a.2.2) := ⟨hp.x.up, hp.y.up, hp.z.up⟩
    have Q : CV (r + 1) q (2 * c.1, 2 * c.2.1, 2 * c.2.2) := ⟨hq.x.up, hq.y.up, hq.z.up⟩
    obtain ⟨d1, d2, d3⟩ := hd
    have hs : crossGo ns cc (n + 1) p q = bif flt .f32 (disV ns (betweenV p q 1056964608)) 0 == cc then crossGo ns cc n (betweenV p q 1056964608) q else crossGo ns cc n p (betweenV p q 1056964608) := rfl
    rw [hs, show r + (n + 1) = r + 1 + n by omega]
    cases e : (flt .f32 (disV ns (betweenV p q 1056964608)) 0 == cc) with
    | true => exact cross_ok ns cc d n (r + 1) _ q _ _ (by omega) M Q ⟨by simp only; omega, by simp only; omega, by simp only; omega⟩ (beq_iff_eq.1 e) h2
    | false => exact cross_ok ns cc d n (r + 1) p _ _ _ (by omega) P M ⟨by simp only; omega, by simp only; omega, by simp only; omega⟩ h1 (by
        generalize flt .f32 (disV ns (betweenV p q 1056964608)) 0 = t at *
        cases t <;> cases cc <;> first | rfl | cases e)
theorem cv_inner {r : Nat} {p q : V3} {a c d : Int × Int × Int} (hr : r ≤ 12) (hp : CV r p a) (hq : CV r q c) (hd : dI3 a c d) (h1 : d.1.natAbs ≤ 12) (h2 : d.2.1.natAbs ≤ 12) (h3 : d.2.2.natAbs ≤ 12) :
    Ex .f32 (innerV (subV q p) (subV q p)) (((d.1 * d.1 + d.2.1 * d.2.1 + d.2.2 * d.2.2 : Int) : Rat) / ((4 ^ r : Nat) : Rat)) := by
  have p4 : ((4 ^ r : Nat) : Rat) = ((2 ^ r : Nat) : Rat) * ((2 ^ r : Nat) : Rat) := by rw [← Rat.natCast_mul, ← Nat.mul_pow]
  have p4' : (4 ^ r : Nat) = 2 ^ (2 * r) := by rw [Nat.pow_mul]
  have ne := p2_ne r
  have D : ∀ {x y : Nat} {n m e : Int}, Cd r x n → Cd r y m → m - n = e → e.natAbs ≤ 12 → Ex .f32 (fsub .f32 y x) ((e : Rat) / ((2 ^ r : Nat) : Rat)) := fun {x y n m e} hx hy he hb => by
    have e1 : (m : Rat) / ((2 ^ r : Nat) : Rat) - (n : Rat) / ((2 ^ r : Nat) : Rat) = (e : Rat) / ((2 ^ r : Nat) : Rat) := by
      rw [← he, Rat.intCast_sub]; grind
    have := hy.e.sub hx.e (by rw [e1]; exact (gr_share r e hb).rep32 (by omega) (by omega))
    rwa [e1] at this
  have sq : ∀ {x : Nat} {e : Int}, Ex .f32 x ((e : Rat) / ((2 ^ r : Nat) : Rat)) → e.natAbs ≤ 12 → Ex .f32 (fmul .f32 x x) (((e * e : Int) : Rat) / ((4 ^ r : Nat) : Rat)) := fun {x e} hx hb => by
    have e1 : (e : Rat) / ((2 ^ r : Nat) : Rat) * ((e : Rat) / ((2 ^ r : Nat) : Rat)) = ((e * e : Int) : Rat) / ((4 ^ r : Nat) : Rat) := by
      rw [p4, Rat.intCast_mul, Rat.div_def, Rat.div_def, Rat.inv_mul_rev]; generalize ((2 ^ r : Nat) : Rat)⁻¹ = z; grind
    have hb2 : (e * e).natAbs ≤ 144 := by rw [Int.natAbs_mul]; exact Nat.mul_le_mul hb hb
    have := hx.mul hx (by rw [e1, p4']; exact (gr_share (2 * r) (e * e) hb2).rep32 (by omega) (by omega))
    rwa [e1] at this
  have ad : ∀ {x y : Nat} {e f : Int}, Ex .f32 x ((e : Rat) / ((4 ^ r : Nat) : Rat)) → Ex .f32 y ((f : Rat) / ((4 ^ r : Nat) : Rat)) → (e + f).natAbs ≤ 1000 → Ex .f32 (fadd .f32 x y) (((e + f : Int) : Rat) / ((4 ^ r : Nat) : Rat)) := fun {x y e f} hx hy hb => by
    have e1 : (e : Rat) / ((4 ^ r : Nat) : Rat) + (f : Rat) / ((4 ^ r : Nat) : Rat) = ((e + f : Int) : Rat) / ((4 ^ r : Nat) : Rat) := by
      rw [Rat.intCast_add]; grind
    have := hx.add hy (by rw [e1, p4']; exact (gr_share (2 * r) (e + f) hb).rep32 (by omega) (by omega))
    rwa [e1] at this
  have X := sq (D hp.x hq.x hd.1 h1) h1
  have Y := sq (D hp.y hq.y hd.2.1 h2) h2
  have Z := sq (D hp.z hq.z hd.2.2 h3) h3
  have bd : ∀ e : Int, e.natAbs ≤ 12 → (e * e).natAbs ≤ 144 := fun e hb => by rw [Int.natAbs_mul]; exact Nat.mul_le_mul hb hb
  have B1 := bd _ h1
  have B2 := bd _ h2
  have B3 := bd _ h3
  exact ad (ad X Y (by omega)) Z (by omega)

end Go.Proofs.Ytfhpmcdbfebflaa

/- The law of lines. -/
set_option linter.unusedVariables false
set_option linter.unusedSimpArgs false
set_option maxRecDepth 100000
namespace Go.Proofs.Ytfhpmcdbfebflaa
open Go.Ev Go.Ev.Fl

noncomputable def a_laws_FnLines : Nat → Option Ann := fun n => bif Nat.beq n 15 then some ⟨[1,5,6,7,8,9,11,13,15,17,18],0,true⟩ else bif Nat.beq n 29 then some ⟨[5,11,13,19,20,21,23,24],0,true⟩ else none
noncomputable def c_laws_FnLines : Ctx := mkC Try.prog tyT [(12, s_laws_b10Long), (13, s_spec_B10Shape), (46, s_spec_B10Vector), (19, s_laws_b10At), (47, s_impl_ProbeLine), (18, s_impl_DistanceAt), (48, s_impl_SignChanges), (49, s_laws_b10Alike), (50, s_impl_CrossingAt), (51, s_spec_LongOf), (52, s_spec_LessVectors), (36, s_impl_IsInside)] [] [] 193 a_laws_FnLines 0 false [] false true true []
noncomputable def fr_laws_FnLines_15 (ys : List Int) (ns : ShapeD) (a w : V3) (n : Int) (ls : List Nat) (dx dy : Nat) (cs : List Int) (t i : Int) : Fr := [(1, .vec (.int .u8) ys), (5, .ptr 0 0), (6, .ptr 1 0), (7, .ptr 2 0), (8, .int .i64 n), (9, .vec tF ls), (11, .float .f32 dx), (13, .float .f32 dy), (15, .vec tI cs), (17, .int .i64 t), (18, .int .i64 i)]
noncomputable def hp_laws_FnLines_15 (ys : List Int) (ns : ShapeD) (a w : V3) (n : Int) (ls : List Nat) (dx dy : Nat) (cs : List Int) (t i : Int) : Heap := [.box [.vec tN ns], .box (enc tV a), .box (enc tV w)]
theorem r_laws_FnLines_15 (ys : List Int) (ns : ShapeD) (a w : V3) (n : Int) (ls : List Nat) (dx dy : Nat) (cs : List Int) (t i : Int) (Kn : Fr → Heap → Prop) (K : V → Heap → Prop) : round c_laws_FnLines ⟨[1,5,6,7,8,9,11,13,15,17,18],0,true⟩ (lb c_laws_FnLines 15 Try.f8) (fr_laws_FnLines_15 ys ns a w n ls dx dy cs t i) (hp_laws_FnLines_15 ys ns a w n ls dx dy cs t i) Kn (lk c_laws_FnLines 15 Try.f8 [] K) =
  cond (decide (i < n))
    (cond (decide (0 ≤ i))
      ((match ls[Int.toNat i]? with
        | some y0 => cond (decide (0 ≤ IntKind.wrap IntKind.i64 (i + 1)))
          ((match ls[Int.toNat (IntKind.wrap IntKind.i64 (i + 1))]? with
            | some y1 => cond (flt FloatKind.f32 y0 0 != flt FloatKind.f32 y1 0)
              (cond (decide (t ≥ (↑(List.length cs) : Int)))
                (K (.bool false) [])
                (cond (decide (0 ≤ t))
                  ((match cs[Int.toNat t]? with
                    | some y2 => cond (y2 != i)
                      (K (.bool false) [])
                      (Kn [(1, (.vec (.int .u8) (ys))), (5, (.ptr 0 0)), (6, (.ptr 1 0)), (7, (.ptr 2 0)), (8, (.int .i64 (n))), (9, (.vec (.float .f32) (ls))), (11, (.float .f32 (dx))), (13, (.float .f32 (dy))), (15, (.vec (.int .i64) (cs))), (17, (.int .i64 (IntKind.wrap IntKind.i64 (t + 1)))), (18, (.int .i64 (IntKind.wrap IntKind.i64 (i + 1))))] [(.box [(.vec tN (ns))]), (.box [(.float .f32 (Prod.fst a)), (.float .f32 (Prod.fst (Prod.snd a))), (.float .f32 (Prod.snd (Prod.snd a)))]), (.box [(.float .f32 (Prod.fst w)), (.float .f32 (Prod.fst (Prod.snd w))), (.float .f32 (Prod.snd (Prod.snd w)))])])
                    | none => False))
                  (False)))
              (Kn [(1, (.vec (.int .u8) (ys))), (5, (.ptr 0 0)), (6, (.ptr 1 0)), (7, (.ptr 2 0)), (8, (.int .i64 (n))), (9, (.vec (.float .f32) (ls))), (11, (.float .f32 (dx))), (13, (.float .f32 (dy))), (15, (.vec (.int .i64) (cs))), (17, (.int .i64 (t))), (18, (.int .i64 (IntKind.wrap IntKind.i64 (i + 1))))] [(.box [(.vec tN (ns))]), (.box [(.float .f32 (Prod.fst a)), (.float .f32 (Prod.fst (Prod.snd a))), (.float .f32 (Prod.snd (Prod.snd a)))]), (.box [(.float .f32 (Prod.fst w)), (.float .f32 (Prod.fst (Prod.snd w))), (.float .f32 (Prod.snd (Prod.snd w)))])])
            | none => False))
          (False)
        | none => False))
      (False))
    (cond (okS ns && (decide (0 ≤ bAtV ys 1 10) && decide (bAtV ys 1 10 ≤ 60)))
      (cond (t != (↑(List.length cs) : Int))
        (K (.bool false) [])
        (cond ((!flt FloatKind.f32 (disV ns a) 0 == flt FloatKind.f32 (disV ns w) 0) != (flt FloatKind.f32 dx 0 != flt FloatKind.f32 dy 0))
          (K (.bool false) [])
          (cond (!!flt FloatKind.f32 (disV ns a) 0 == flt FloatKind.f32 (disV ns w) 0)
            (K (.bool true) [])
            (LoopE c_laws_FnLines ⟨[5, 11, 13, 19, 20, 21, 23, 24], 0, true⟩ (lb c_laws_FnLines 29 Try.f8) [(5, (.ptr 0 0)), (11, (.float .f32 (dx))), (13, (.float .f32 (dy))), (19, (.int .i64 (bAtV ys 1 10))), (20, (.ptr 1 0)), (21, (.ptr 2 0)), (23, (.float .f64 (widen (longV (subV w a))))), (24, (.int .i64 0))] [(.box [(.vec tN (ns))]), (.box [(.float .f32 (Prod.fst (Prod.fst (crossV ns a w (bAtV ys 1 10))))), (.float .f32 (Prod.fst (Prod.snd (Prod.fst (crossV ns a w (bAtV ys 1 10)))))), (.float .f32 (Prod.snd (Prod.snd (Prod.fst (crossV ns a w (bAtV ys 1 10))))))]), (.box [(.float .f32 (Prod.fst (Prod.snd (crossV ns a w (bAtV ys 1 10))))), (.float .f32 (Prod.fst (Prod.snd (Prod.snd (crossV ns a w (bAtV ys 1 10)))))), (.float .f32 (Prod.snd (Prod.snd (Prod.snd (crossV ns a w (bAtV ys 1 10))))))])] (lk c_laws_FnLines 29 Try.f8 [] K)))))
      (False)) := by kernel_rfl
noncomputable def fr_laws_FnLines_29 (ns : ShapeD) (dx dy : Nat) (r : Int) (p q : V3) (g : Nat) (k : Int) : Fr := [(5, .ptr 0 0), (11, .float .f32 dx), (13, .float .f32 dy), (19, .int .i64 r), (20, .ptr 1 0), (21, .ptr 2 0), (23, .float .f64 g), (24, .int .i64 k)]
noncomputable def hp_laws_FnLines_29 (ns : ShapeD) (dx dy : Nat) (r : Int) (p q : V3) (g : Nat) (k : Int) : Heap := [.box [.vec tN ns], .box (enc tV p), .box (enc tV q)]
theorem r_laws_FnLines_29 (ns : ShapeD) (dx dy : Nat) (r : Int) (p q : V3) (g : Nat) (k : Int) (Kn : Fr → Heap → Prop) (K : V → Heap → Prop) : round c_laws_FnLines ⟨[5,11,13,19,20,21,23,24],0,true⟩ (lb c_laws_FnLines 29 Try.f8) (fr_laws_FnLines_29 ns dx dy r p q g k) (hp_laws_FnLines_29 ns dx dy r p q g k) Kn (lk c_laws_FnLines 29 Try.f8 [] K) =
 cond (decide (k < r))
 (Kn [(5, (.ptr 0 0)), (11, (.float .f32 (dx))), (13, (.float .f32 (dy))), (19, (.int .i64 (r))), (20, (.ptr 1 0)), (21, (.ptr 2 0)), (23, (.float .f64 (fdiv FloatKind.f64 g 4611686018427387904))), (24, (.int .i64 (IntKind.wrap IntKind.i64 (k + 1))))] [(.box [(.vec tN (ns))]), (.box [(.float .f32 (Prod.fst p)), (.float .f32 (Prod.fst (Prod.snd p))), (.float .f32 (Prod.snd (Prod.snd p)))]), (.box [(.float .f32 (Prod.fst q)), (.float .f32 (Prod.fst (Prod.snd q))), (.float .f32 (Prod.snd (Prod.snd q)))])])
 (cond (okS ns)
 (cond (flt FloatKind.f32 (disV ns p) 0 == flt FloatKind.f32 dx 0)
 (cond (okS ns)
 (cond (flt FloatKind.f32 (disV ns q) 0 == flt FloatKind.f32 dy 0)
 (K (.bool (fle FloatKind.f64 (widen (longV (subV q p))) (fadd FloatKind.f64 g 4562254508917369340))) [])
 (K (.bool false) []))
 (False))
 (K (.bool false) []))
 (False)) := by kernel_rfl
theorem w_laws_FnLines (xs ys : List Int) (K : V → Heap → Prop) : wpFn c_laws_FnLines Try.f8 (encAs [.cell tB, .cell tB] (xs, ys, ())) [] K =
  cond (decide (1048576 < List.length xs) || decide (1048576 < List.length ys))
    (K (.bool true) [])
    (cond (okS (exV (xs, 0, 0)) && (decide (1 ≤ IntKind.wrap IntKind.i64 (1 + bAtV ys 0 20)) && decide (IntKind.wrap IntKind.i64 (1 + bAtV ys 0 20) ≤ 100)))
      (cond (okS (exV (xs, 0, 0)))
        (cond (okS (exV (xs, 0, 0)))
          (cond (decide ((↑(List.length (probeV (exV (xs, 0, 0)) (intsV xs 6) (intsV ys 6) (IntKind.wrap IntKind.i64 (1 + bAtV ys 0 20)))) : Int) ≤ 256))
            (cond ((↑(List.length (probeV (exV (xs, 0, 0)) (intsV xs 6) (intsV ys 6) (IntKind.wrap IntKind.i64 (1 + bAtV ys 0 20)))) : Int) != IntKind.wrap IntKind.i64 (IntKind.wrap IntKind.i64 (1 + bAtV ys 0 20) + 1))
              (K (.bool false) [])
              ((match (probeV (exV (xs, 0, 0)) (intsV xs 6) (intsV ys 6) (IntKind.wrap IntKind.i64 (1 + bAtV ys 0 20)))[0]? with
                | some y0 => cond (!(feq FloatKind.f32 y0 (disV (exV (xs, 0, 0)) (intsV xs 6)) || !feq FloatKind.f32 y0 y0 && !feq FloatKind.f32 (disV (exV (xs, 0, 0)) (intsV xs 6)) (disV (exV (xs, 0, 0)) (intsV xs 6))))
                  (K (.bool false) [])
                  (cond (decide (0 ≤ IntKind.wrap IntKind.i64 (1 + bAtV ys 0 20)))
                    ((match (probeV (exV (xs, 0, 0)) (intsV xs 6) (intsV ys 6) (IntKind.wrap IntKind.i64 (1 + bAtV ys 0 20)))[Int.toNat (IntKind.wrap IntKind.i64 (1 + bAtV ys 0 20))]? with
                      | some y1 => cond (!(feq FloatKind.f32 y1 (disV (exV (xs, 0, 0)) (intsV ys 6)) || !feq FloatKind.f32 y1 y1 && !feq FloatKind.f32 (disV (exV (xs, 0, 0)) (intsV ys 6)) (disV (exV (xs, 0, 0)) (intsV ys 6))))
                        (K (.bool false) [])
                        (LoopE c_laws_FnLines ⟨[1, 5, 6, 7, 8, 9, 11, 13, 15, 17, 18], 0, true⟩ (lb c_laws_FnLines 15 Try.f8) [(1, (.vec (.int .u8) (ys))), (5, (.ptr 0 0)), (6, (.ptr 1 0)), (7, (.ptr 2 0)), (8, (.int .i64 (IntKind.wrap IntKind.i64 (1 + bAtV ys 0 20)))), (9, (.vec (.float .f32) (probeV (exV (xs, 0, 0)) (intsV xs 6) (intsV ys 6) (IntKind.wrap IntKind.i64 (1 + bAtV ys 0 20))))), (11, (.float .f32 (disV (exV (xs, 0, 0)) (intsV xs 6)))), (13, (.float .f32 (disV (exV (xs, 0, 0)) (intsV ys 6)))), (15, (.vec (.int .i64) (chV (probeV (exV (xs, 0, 0)) (intsV xs 6) (intsV ys 6) (IntKind.wrap IntKind.i64 (1 + bAtV ys 0 20)))))), (17, (.int .i64 0)), (18, (.int .i64 0))] [(.box [(.vec tN (exV (xs, 0, 0)))]), (.box [(.float .f32 (Prod.fst (intsV xs 6))), (.float .f32 (Prod.fst (Prod.snd (intsV xs 6)))), (.float .f32 (Prod.snd (Prod.snd (intsV xs 6))))]), (.box [(.float .f32 (Prod.fst (intsV ys 6))), (.float .f32 (Prod.fst (Prod.snd (intsV ys 6)))), (.float .f32 (Prod.snd (Prod.snd (intsV ys 6))))])] (lk c_laws_FnLines 15 Try.f8 [] K))
                      | none => False))
                    (False))
                | none => False)))
            (False))
          (False))
        (False))
      (False)) := by kernel_rfl
noncomputable def s_laws_FnLines : Sm := semT [.cell tB, .cell tB] fun x => match x with | (xs, ys, _) => .bool true
theorem ok_laws_FnLines : FnOk Try.prog 8 s_laws_FnLines := fnOk_typed (fnOk_runC (C := c_laws_FnLines) rfl mixed (.cons ok_laws_b10Long (.cons ok_spec_B10Shape (.cons ok_spec_B10Vector (.cons ok_laws_b10At (.cons ok_impl_ProbeLine (.cons ok_impl_DistanceAt (.cons ok_impl_SignChanges (.cons ok_laws_b10Alike (.cons ok_impl_CrossingAt (.cons ok_spec_LongOf (.cons ok_spec_LessVectors (.cons ok_impl_IsInside .nil)))))))))))) .nil .nil Try.func8 (by kernel_rfl)) fun (x : ((List Int) × (List Int) × Unit)) wf K h => by
  obtain ⟨xs, ys, ⟨⟩⟩ := x
  replace h : K (.bool true) [] := h
  rw [w_laws_FnLines xs ys K]
  have bx : bytes xs := bytes_of wf.1
  have bY : bytes ys := bytes_of wf.2.1
  cases (decide (1048576 < xs.length) || decide (1048576 < ys.length)) with
  | true => exact h
  | false =>
  have hS := ex_okS (s := (xs, 0, 0)) bx
  generalize exV (xs, 0, 0) = ns at *
  obtain ⟨A, hA⟩ := ints_iv bx
  obtain ⟨C, hC⟩ := ints_iv bY
  have rn := bAt_range bY (i := 0) (n := 20) (by omega) (by omega)
  have rr := bAt_range bY (i := 1) (n := 10) (by omega) (by omega)
  rw [i64_of (n := 1 + bAtV ys 0 20) (by omega) (by omega)]
  obtain ⟨N, hN⟩ : ∃ N : Nat, 1 + bAtV ys 0 20 = (N : Int) := ⟨(1 + bAtV ys 0 20).toNat, by omega⟩
  obtain ⟨R, hR⟩ : ∃ R : Nat, bAtV ys 1 10 = (R : Int) := ⟨(bAtV ys 1 10).toNat, by omega⟩
  have hN2 : 1 ≤ N ∧ N ≤ 20 := by omega
  have hR2 : R ≤ 9 := by omega
  rw [hN, i64_of (n := (N : Int) + 1) (by omega) (by omega)]
  generalize intsV xs 6 = a at *
  generalize intsV ys 6 = w at *
  obtain ⟨b0, b1⟩ := between_ends hA hC
  obtain ⟨s0, s1⟩ := share_ends (n := (N : Int)) (by omega)
  have lsL : (probeV ns a w N).length = N + 1 := by unfold probeV; rw [probeL_len, Int.toNat_natCast]
  have ls0 : (probeV ns a w N)[0]? = some (disV ns a) := by
    unfold probeV
    rw [probeL_get ns a w N 0 _ (by omega), show ((0 : Nat) : Int) = 0 from rfl, s0, b0]
  have lsN : (probeV ns a w N)[N]? = some (disV ns w) := by
    unfold probeV
    rw [probeL_get ns a w N N _ (by omega), s1, b1]
  generalize probeV ns a w N = ls at *
  have hcs : chV ls = chL ls N := by unfold chV; rw [lsL]; rfl
  have al : ∀ x, (!(feq .f32 x x || !feq .f32 x x && !feq .f32 x x)) = false := fun x => by cases feq .f32 x x <;> rfl
  rw [lsL, hcs]
  refine cond_no rfl ?_
  refine cond_intro (by rw [hS, d_t (show (1 : Int) ≤ N by omega), d_t (show (N : Int) ≤ 100 by omega)]; rfl) ?_
  refine cond_intro hS ?_
  refine cond_intro hS ?_
  refine cond_intro (decide_eq_true (by omega)) ?_
  refine cond_no (bne_eq_false_iff_eq.2 (by omega)) ?_
  rw [ls0]
  refine cond_no (al _) ?_
  refine cond_intro (decide_eq_true (by omega)) ?_
  rw [Int.toNat_natCast, lsN]
  refine cond_no (al _) ?_
  have at' : ∀ i, i < N + 1 → ls[i]? = some (nt ls i) := fun i hi => by
    unfold nt
    rw [get_lt (show i < ls.length by omega)]
    rfl
  refine loop_run (σ := Nat) (fun i => fr_laws_FnLines_15 ys ns a w N ls (disV ns a) (disV ns w) (chL ls N) ((chL ls i).length : Int) i) (fun i => hp_laws_FnLines_15 ys ns a w N ls (disV ns a) (disV ns w) (chL ls N) ((chL ls i).length : Int) i) (fun i => i ≤ N) (fun i => N - i) ?_ 0 (Nat.zero_le _)
  intro i hi Kn hk
  rw [r_laws_FnLines_15 ys ns a w N ls (disV ns a) (disV ns w) (chL ls N) ((chL ls i).length : Int) i Kn K]
  by_cases hlt : i < N
  · have next := hk (i + 1) hlt (by omega)
    have hll := chL_len ls i
    rw [d_t (show (i : Int) < N by omega), d_0, i64_of (n := (i : Int) + 1) (by omega) (by omega), show ((i : Int) + 1).toNat = i + 1 by omega, Int.toNat_natCast, Int.toNat_natCast, at' i (by omega), at' (i + 1) (by omega), d_t (show (0 : Int) ≤ (i : Int) + 1 by omega)]
    simp only [cond_true]
    have hstep : chL ls (i + 1) = bif chAt ls i then chL ls i ++ [(i : Int)] else chL ls i := rfl
    rw [hstep] at next
    show cond (chAt ls i) _ _
    cases hc : chAt ls i with
    | false =>
      rw [hc] at next
      exact next
    | true =>
      rw [hc] at next
      have hat := chL_at ls hlt hc
      have hlt2 := lt_of_get hat
      rw [d_f (show ¬ ((chL ls i).length : Int) ≥ ((chL ls N).length : Int) by omega), d_0, hat]
      simp only [cond_true, cond_false, bne_self_eq_false]
      rw [i64_of (n := ((chL ls i).length : Int) + 1) (by omega) (by omega)]
      simp only [cond_true, List.length_append, List.length_singleton] at next
      exact next
  · have e : i = N := by omega
    subst e
    rw [d_f (show ¬ (i : Int) < (i : Int) by omega)]
    refine cond_no rfl ?_
    refine cond_intro (by rw [hS, hR, d_t (show (0 : Int) ≤ R by omega), d_t (show (R : Int) ≤ 60 by omega)]; rfl) ?_
    refine cond_no (bne_eq_false_iff_eq.2 rfl) ?_
    have hd : ∀ p q : Bool, ((!(p == q)) != (p != q)) = false := by decide
    refine cond_no (hd _ _) ?_
    rw [hR]
    cases hf : (flt .f32 (disV ns a) 0 == flt .f32 (disV ns w) 0) with
    | true => exact h
    | false =>
      have hw : flt .f32 (disV ns w) 0 = !flt .f32 (disV ns a) 0 := by
        generalize flt .f32 (disV ns a) 0 = u at *
        generalize flt .f32 (disV ns w) 0 = v at *
        cases u <;> cases v <;> first | rfl | cases hf
      have hx : crossV ns a w R = crossGo ns (flt .f32 (disV ns a) 0) R a w := by unfold crossV; rw [hf]; rfl
      have d1 : (C.1 - A.1).natAbs ≤ 12 := by have := hA.x; have := hC.x; omega
      have d2 : (C.2.1 - A.2.1).natAbs ≤ 12 := by have := hA.y; have := hC.y; omega
      have d3 : (C.2.2 - A.2.2).natAbs ≤ 12 := by have := hA.z; have := hC.z; omega
      obtain ⟨A', C', cA, cC, dd, e1, e2⟩ := cross_ok ns (flt .f32 (disV ns a) 0) (C.1 - A.1, C.2.1 - A.2.1, C.2.2 - A.2.2) R 0 a w A C (by omega) (iv_cv hA) (iv_cv hC) ⟨rfl, rfl, rfl⟩ rfl hw
      rw [Nat.zero_add] at cA cC
      have X := cv_inner (by omega) cA cC dd d1 d2 d3
      have Y := cv_inner (r := 0) (by omega) (iv_cv hA) (iv_cv hC) (d := (C.1 - A.1, C.2.1 - A.2.1, C.2.2 - A.2.2)) ⟨rfl, rfl, rfl⟩ d1 d2 d3
      simp only at X Y
      have sqb : ∀ e : Int, e.natAbs ≤ 12 → 0 ≤ e * e ∧ e * e ≤ 144 := fun e hb => by
        have h1 : (e * e).natAbs ≤ 144 := by rw [Int.natAbs_mul]; exact Nat.mul_le_mul hb hb
        have h2 : 0 ≤ e * e := by
          rcases Int.le_total 0 e with k | k
          · exact Int.mul_nonneg k k
          · exact Int.mul_nonneg_of_nonpos_of_nonpos k k
        omega
      have q1 := sqb _ d1
      have q2 := sqb _ d2
      have q3 := sqb _ d3
      have D0 : 0 ≤ (C.1 - A.1) * (C.1 - A.1) + (C.2.1 - A.2.1) * (C.2.1 - A.2.1) + (C.2.2 - A.2.2) * (C.2.2 - A.2.2) ∧ (C.1 - A.1) * (C.1 - A.1) + (C.2.1 - A.2.1) * (C.2.1 - A.2.1) + (C.2.2 - A.2.2) * (C.2.2 - A.2.2) ≤ 441 := by omega
      generalize (C.1 - A.1) * (C.1 - A.1) + (C.2.1 - A.2.1) * (C.2.1 - A.2.1) + (C.2.2 - A.2.2) * (C.2.2 - A.2.2) = D at *
      have f0 : (0 : Rat) ≤ (D : Rat) := by
        have := Rat.intCast_le_intCast.2 D0.1
        exact this
      have f1 : (D : Rat) ≤ 441 := by
        have := Rat.intCast_le_intCast.2 D0.2
        exact this
      have Y' := Y.cast (show (D : Rat) / ((4 ^ 0 : Nat) : Rat) = (D : Rat) by
        have : ((4 ^ 0 : Nat) : Rat) = 1 := rfl
        rw [this]; grind)
      have G := gap_root X Y' f0 f1 (by omega)
      rw [← hx] at e1 e2 G
      simp only [Bool.not_false, Bool.not_true, cond_false]
      generalize crossV ns a w R = pq at *
      obtain ⟨p, q⟩ := pq
      simp only at e1 e2 G ⊢
      refine loop_run (σ := Nat × Nat) (fun s => fr_laws_FnLines_29 ns (disV ns a) (disV ns w) R p q s.2 s.1) (fun s => hp_laws_FnLines_29 ns (disV ns a) (disV ns w) R p q s.2 s.1) (fun s => s.1 ≤ R ∧ gapR (R - s.1) s.2 = gapR R (widen (longV (subV w a)))) (fun s => R - s.1) ?_ (0, widen (longV (subV w a))) ⟨Nat.zero_le _, rfl⟩
      rintro ⟨k, g⟩ ⟨hkR, hg⟩ Kn2 hk2
      simp only at hkR hg hk2 ⊢
      rw [r_laws_FnLines_29 ns (disV ns a) (disV ns w) R p q g k Kn2 K]
      by_cases hkl : k < R
      · have e : R - k = (R - (k + 1)) + 1 := by omega
        rw [e] at hg
        have hg : gapR (R - (k + 1)) (fdiv .f64 g 4611686018427387904) = gapR R (widen (longV (subV w a))) := hg
        rw [d_t (show (k : Int) < R by omega), i64_of (n := (k : Int) + 1) (by omega) (by omega)]
        exact hk2 (k + 1, fdiv .f64 g 4611686018427387904) ⟨hkl, hg⟩ (by simp only; omega)
      · have e : k = R := by omega
        subst e
        rw [Nat.sub_self] at hg
        have hg : g = gapR k (widen (longV (subV w a))) := hg
        have G : fle .f64 (widen (longV (subV q p))) (fadd .f64 (gapR k (widen (longV (subV w a)))) 4562254508917369340) = true := G
        rw [d_f (show ¬ (k : Int) < (k : Int) by omega), hS, e1, e2, hw, hg, G]
        simp only [beq_self_eq_true, cond_true, cond_false]
        exact h

end Go.Proofs.Ytfhpmcdbfebflaa

