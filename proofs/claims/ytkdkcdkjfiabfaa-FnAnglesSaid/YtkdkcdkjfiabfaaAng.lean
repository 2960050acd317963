/- Angles, sines and flushed numbers. -/
import Derived.Test.YtkdkcdkjfiabfaaGeo
import Derived.Test.YtkdkcdkjfiabfaaIdx
import Derived.Test.YtkdkcdkjfiabfaaFlQ
import Derived.Test.YtkdkcdkjfiabfaaEvFlr
set_option linter.unusedVariables false
set_option linter.unusedSimpArgs false
set_option maxRecDepth 100000
namespace Go.Proofs.Ytkdkcdkjfiabfaa
open Go.Ev Go.Ev.Fl

abbrev s_math_Float64bits : Sm := sF64bits
theorem ok_math_Float64bits : FnOk Try.prog 181 (sF64bits) := ok_F64bits Try.func181 (by kernel_rfl) (by kernel_rfl) (by kernel_rfl) (by kernel_rfl)
abbrev s_math_Float64frombits : Sm := sF64from
theorem ok_math_Float64frombits : FnOk Try.prog 180 (sF64from) := ok_F64from Try.func180 (by kernel_rfl) (by kernel_rfl) (by kernel_rfl) (by kernel_rfl)
abbrev s_math_archTrunc : Sm := sWhole .zero
theorem ok_math_archTrunc : FnOk Try.prog 183 (sWhole .zero) := ok_whole "math.archTrunc" .zero Try.func183 (by kernel_rfl) (by kernel_rfl) (by kernel_rfl) (by kernel_rfl)

/-! math.NaN -/
noncomputable def c_math_NaN : Ctx := mkC Try.prog tyT [(180, s_math_Float64frombits)] [] [] 2 (fun _ => none) 0
theorem w_math_NaN (K : V → Heap → Prop) : wpFn c_math_NaN Try.f119 (encAs [] ()) [] K =
  K (.float .f64 (canon FloatKind.f64 9221120237041090561)) [] := by kernel_rfl
noncomputable def s_math_NaN : Sm := semT [] fun x => match x with | _ => .float .f64 9221120237041090560
theorem ok_math_NaN : FnOk Try.prog 119 s_math_NaN := fnOk_typed (fnOk_runC (C := c_math_NaN) rfl mixed (.cons ok_math_Float64frombits .nil) .nil .nil Try.func119 (by kernel_rfl)) fun (x : Unit) wf K h => by
  obtain ⟨⟩ := x
  replace h : K (.float .f64 9221120237041090560) [] := h
  rw [w_math_NaN  K]
  rw [show canon FloatKind.f64 9221120237041090561 = 9221120237041090560 by decide +kernel]
  exact h

theorem cond_and2 (a c : Bool) (P T : Prop) : cond a (cond c P T) T = cond (a && c) P T := by cases a <;> rfl
theorem cond_of {c : Bool} {P Q : Prop} (hc : c = false) (h : Q) : cond c P Q := by rw [hc]; exact h
theorem abs_bits {x : Nat} (h : x < 18446744073709551616) : Int.toNat (IntKind.wrap IntKind.u64 (↑(BitVec.toNat (BitVec.ofInt 64 (↑x : Int) &&& ~~~BitVec.ofInt 64 9223372036854775808)) : Int)) = x % 9223372036854775808 := by
  have e : BitVec.toNat (BitVec.ofInt 64 (↑x : Int) &&& ~~~BitVec.ofInt 64 9223372036854775808) = x % 9223372036854775808 := by
    rw [BitVec.toNat_and, BitVec.ofInt_natCast, BitVec.toNat_ofNat, Nat.mod_eq_of_lt (show x < 2 ^ 64 from h)]
    exact Nat.and_two_pow_sub_one_eq_mod x 63
  rw [e, wrap_of (by have : IntKind.u64.min = 0 := rfl; omega) (by have : IntKind.u64.max = 18446744073709551615 := rfl; omega)]
  omega
--B absW Nat → Nat
def absW (x : Nat) : Nat := abs64 x
/-! math.Abs -/
noncomputable def c_math_Abs : Ctx := mkC Try.prog tyT [(181, s_math_Float64bits), (180, s_math_Float64frombits)] [] [] 7 (fun _ => none) 0
theorem w_math_Abs (x : Nat) (K : V → Heap → Prop) : wpFn c_math_Abs Try.f120 (encAs [.cell (.float .f64)] (x, ())) [] K =
  cond (nan FloatKind.f64 x)
    (False)
    (K (.float .f64 (canon FloatKind.f64 (Int.toNat (IntKind.wrap IntKind.u64 (↑(BitVec.toNat (BitVec.ofInt 64 (↑x : Int) &&& ~~~BitVec.ofInt 64 9223372036854775808)) : Int))))) []) := by kernel_rfl
noncomputable def s_math_Abs : Sm := semG [.cell (.float .f64)] (fun x => match x with | (x, _) => !nan .f64 x) fun x => match x with | (x, _) => .float .f64 (absW x)
theorem ok_math_Abs : FnOk Try.prog 120 s_math_Abs := fnOk_typedG (fnOk_runC (C := c_math_Abs) rfl mixed (.cons ok_math_Float64bits (.cons ok_math_Float64frombits .nil)) .nil .nil Try.func120 (by kernel_rfl)) fun (x : ((Nat) × Unit)) wf hg K h => by
  obtain ⟨x, ⟨⟩⟩ := x
  replace hg : (!nan .f64 x) = true := hg
  replace h : K (.float .f64 (absW x)) [] := h
  rw [w_math_Abs x K]
  rw [Bool.not_eq_true'] at hg
  rw [hg]
  have hl : x < 18446744073709551616 := wf.1.1
  rw [abs_bits hl]
  have hn : nan .f64 (x % 9223372036854775808) = false := by
    rw [nan_false] at hg ⊢
    show x % 9223372036854775808 % 9223372036854775808 ≤ _
    rw [Nat.mod_mod]
    exact hg
  rw [canon_not hn]
  exact h

/-! math.Trunc -/
noncomputable def c_math_Trunc : Ctx := mkC Try.prog tyT [(183, s_math_archTrunc)] [] [] 7 (fun _ => none) 0
theorem w_math_Trunc (x : Nat) (K : V → Heap → Prop) : wpFn c_math_Trunc Try.f123 (encAs [.cell (.float .f64)] (x, ())) [] K =
  cond (nan FloatKind.f64 x)
    (False)
    (K (.float .f64 (fwhole Ieee.Toward.zero x)) []) := by kernel_rfl
noncomputable def s_math_Trunc : Sm := semG [.cell (.float .f64)] (fun x => match x with | (x, _) => !nan .f64 x) fun x => match x with | (x, _) => .float .f64 (fwhole .zero x)
theorem ok_math_Trunc : FnOk Try.prog 123 s_math_Trunc := fnOk_typedG (fnOk_runC (C := c_math_Trunc) rfl mixed (.cons ok_math_archTrunc .nil) .nil .nil Try.func123 (by kernel_rfl)) fun (x : ((Nat) × Unit)) wf hg K h => by
  obtain ⟨x, ⟨⟩⟩ := x
  replace hg : (!nan .f64 x) = true := hg
  replace h : K (.float .f64 (fwhole .zero x)) [] := h
  rw [w_math_Trunc x K]
  cases e : nan .f64 x <;> rw [e] at hg
  · exact h
  · cases hg

/-! impl.finite$1 -/
noncomputable def c_impl_finite_1 : Ctx := mkC Try.prog tyT [(122, s_impl_IsFinite)] [] [] 6 (fun _ => none) 0
theorem w_impl_finite_1 (x : Nat) (K : V → Heap → Prop) : wpFn c_impl_finite_1 Try.f179 (encAs [.cell tF] (x, ())) [] K =
  K (.bool (!isFin x)) [] := by kernel_rfl
noncomputable def s_impl_finite_1 : Sm := semT [.cell tF] fun x => match x with | (x, _) => .bool (!isFin x)
theorem ok_impl_finite_1 : FnOk Try.prog 179 s_impl_finite_1 := fnOk_typed (fnOk_runC (C := c_impl_finite_1) rfl mixed (.cons ok_impl_IsFinite .nil) .nil .nil Try.func179 (by kernel_rfl)) fun (x : ((Nat) × Unit)) wf K h => by
  obtain ⟨x, ⟨⟩⟩ := x
  replace h : K (.bool (!isFin x)) [] := h
  rw [w_impl_finite_1 x K]
  exact h

/-! slices.IndexFunc[[]float32,float32] -/
noncomputable def a_slices_IndexFunc__float32_vfin : Nat → Option Ann := fun n => bif Nat.beq n 2 then some ⟨[0,1,7,8],0,false⟩ else none
noncomputable def c_slices_IndexFunc__float32_vfin : Ctx := mkC Try.prog tyT [(179, s_impl_finite_1)] [] [] 19 a_slices_IndexFunc__float32_vfin 0
noncomputable def fr_slices_IndexFunc__float32_vfin_2 (xs : List (Nat)) (n i : Int) : Fr := [(0, .vec (tF) xs), (1, .fn 179 []), (7, .int .i64 n), (8, .int .i64 i)]
theorem r_slices_IndexFunc__float32_vfin_2 (xs : List (Nat)) (n i : Int) (Kn : Fr → Heap → Prop) (K : V → Heap → Prop) : round c_slices_IndexFunc__float32_vfin ⟨[0,1,7,8],0,false⟩ (lb c_slices_IndexFunc__float32_vfin 2 Try.f216) (fr_slices_IndexFunc__float32_vfin_2 xs n i) [] Kn (lk c_slices_IndexFunc__float32_vfin 2 Try.f216 [] K) =
  cond (decide (i < n))
    (cond (decide (0 ≤ i))
      ((match xs[Int.toNat i]? with
        | some y0 => cond (!isFin y0)
          (K (.int .i64 (i)) [])
          (Kn [(0, (.vec (.float .f32) (xs))), (1, (.fn 179 [])), (7, (.int .i64 (n))), (8, (.int .i64 (IntKind.wrap IntKind.i64 (i + 1))))] [])
        | none => False))
      (False))
    (K (.int .i64 (-1)) []) := by kernel_rfl
theorem w_slices_IndexFunc__float32_vfin (xs : List (Nat)) (K : V → Heap → Prop) : wpFn c_slices_IndexFunc__float32_vfin Try.f216 (encAs [.cell (.slice (tF)), .fn 179] (xs, (), ())) [] K =
  LoopE c_slices_IndexFunc__float32_vfin ⟨[0, 1, 7, 8], 0, false⟩ (lb c_slices_IndexFunc__float32_vfin 2 Try.f216) [(0, (.vec (.float .f32) (xs))), (1, (.fn 179 [])), (7, (.int .i64 ((↑(List.length xs) : Int)))), (8, (.int .i64 0))] [] (lk c_slices_IndexFunc__float32_vfin 2 Try.f216 [] K) := by kernel_rfl
noncomputable def s_slices_IndexFunc__float32_vfin : Sm := semT [.cell (.slice (tF)), .fn 179] fun x => match x with | (xs, _, _) => .int .i64 (idxF (fun x => !isFin x) xs)
theorem ok_slices_IndexFunc__float32_vfin : FnOk Try.prog 216 s_slices_IndexFunc__float32_vfin := fnOk_typed (fnOk_runC (C := c_slices_IndexFunc__float32_vfin) rfl mixed (.cons ok_impl_finite_1 .nil) .nil .nil Try.func216 (by kernel_rfl)) fun (x : ((List (Nat)) × Unit × Unit)) wf K h => by
  obtain ⟨xs, ⟨⟩, ⟨⟩⟩ := x
  replace h : K (.int .i64 (idxF (fun x => !isFin x) xs)) [] := h
  rw [w_slices_IndexFunc__float32_vfin xs K]
  obtain ⟨⟨wl, _⟩, _⟩ := wf
  have wl : xs.length ≤ 9223372036854775807 := wl
  refine loop_run (σ := Nat) (fun i => fr_slices_IndexFunc__float32_vfin_2 xs xs.length i) (fun _ => []) (fun i => i ≤ xs.length ∧ (xs.take i).any (fun x => !isFin x) = false) (fun i => xs.length - i) ?_ 0 ⟨Nat.zero_le _, rfl⟩
  intro i hi Kn hk
  rw [r_slices_IndexFunc__float32_vfin_2 xs xs.length i Kn K]
  by_cases hlt : i < xs.length
  · simp only [d_lt hlt, d_0, cond_true, Int.toNat_natCast, get_lt hlt]
    cases hp : (fun x => !isFin x) (xs[i]'hlt) with
    | true =>
      rw [idxF_hit hlt hi.2 hp] at h
      simp only at hp
      simp only [hp, cond_true]
      exact h
    | false =>
      have hn := any_snoc (f := (fun x => !isFin x)) hlt hi.2 hp
      simp only at hp
      simp only [hp, cond_false]
      rw [i64_of (by omega) (by omega)]
      exact hk (i + 1) ⟨hlt, hn⟩ (by omega)
  · simp only [d_nlt hlt, cond_false]
    have : i = xs.length := by omega
    subst this
    have ha := hi.2
    rw [List.take_length] at ha
    rw [idxF_none ha] at h
    exact h

/-! slices.ContainsFunc[[]float32,float32] -/
noncomputable def c_slices_ContainsFunc__float32_vfin : Ctx := mkC Try.prog tyT [(216, s_slices_IndexFunc__float32_vfin)] [] [] 9 (fun _ => none) 0
theorem w_slices_ContainsFunc__float32_vfin (xs : List (Nat)) (K : V → Heap → Prop) : wpFn c_slices_ContainsFunc__float32_vfin Try.f175 (encAs [.cell (.slice (tF)), .fn 179] (xs, (), ())) [] K =
  K (.bool (decide (idxF (fun x => !isFin x) xs ≥ 0))) [] := by kernel_rfl
noncomputable def s_slices_ContainsFunc__float32_vfin : Sm := semT [.cell (.slice (tF)), .fn 179] fun x => match x with | (xs, _, _) => .bool (xs.any (fun x => !isFin x))
theorem ok_slices_ContainsFunc__float32_vfin : FnOk Try.prog 175 s_slices_ContainsFunc__float32_vfin := fnOk_typed (fnOk_runC (C := c_slices_ContainsFunc__float32_vfin) rfl mixed (.cons ok_slices_IndexFunc__float32_vfin .nil) .nil .nil Try.func175 (by kernel_rfl)) fun (x : ((List (Nat)) × Unit × Unit)) wf K h => by
  obtain ⟨xs, ⟨⟩, ⟨⟩⟩ := x
  replace h : K (.bool (xs.any (fun x => !isFin x))) [] := h
  rw [w_slices_ContainsFunc__float32_vfin xs K]
  rw [idxF_ge]
  exact h


/-! impl.finite -/
noncomputable def c_impl_finite : Ctx := mkC Try.prog tyT [(175, s_slices_ContainsFunc__float32_vfin)] [] [] 6 (fun _ => none) 0
theorem w_impl_finite (xs : List Nat) (K : V → Heap → Prop) : wpFn c_impl_finite Try.f118 (encAs [.cell (.slice tF)] (xs, ())) [] K =
  K (.bool (!List.any xs fun x => !isFin x)) [] := by kernel_rfl
noncomputable def s_impl_finite : Sm := semT [.cell (.slice tF)] fun x => match x with | (xs, _) => .bool (!xs.any (fun x => !isFin x))
theorem ok_impl_finite : FnOk Try.prog 118 s_impl_finite := fnOk_typed (fnOk_runC (C := c_impl_finite) rfl mixed (.cons ok_slices_ContainsFunc__float32_vfin .nil) .nil .nil Try.func118 (by kernel_rfl)) fun (x : ((List Nat) × Unit)) wf K h => by
  obtain ⟨xs, ⟨⟩⟩ := x
  replace h : K (.bool (!xs.any (fun x => !isFin x))) [] := h
  rw [w_impl_finite xs K]
  exact h

--B angleF Nat → Nat → Nat
def angleF (y x : Nat) : Nat := bif feq .f32 x 0 && feq .f32 y 0 then 0 else angleN y x
--B angOk Nat → Nat → Bool
def angOk (y x : Nat) : Bool := isFin y && (isFin x && ((feq .f32 x 0 && feq .f32 y 0) || !ovf (ang64 y x)))
/-! impl.AngleTurns -/
noncomputable def a_impl_AngleTurns : Nat → Option Ann := fun n => bif Nat.beq n 10 then some ⟨[0,1,5,6,7,42],0,false⟩ else bif Nat.beq n 15 then some ⟨[0,1,5,6,7,8,9,10],0,false⟩ else none
noncomputable def c_impl_AngleTurns : Ctx := mkC Try.prog tyT [(118, s_impl_finite), (119, s_math_NaN), (120, s_math_Abs), (121, s_math_Sqrt)] [] [] 87 a_impl_AngleTurns 0
noncomputable def fr_impl_AngleTurns_10 (y x a c t : Nat) (i : Int) : Fr := [(0, .float .f32 y), (1, .float .f32 x), (5, .float .f64 a), (6, .float .f64 c), (7, .float .f64 t), (42, .int .i64 i)]
theorem r_impl_AngleTurns_10 (y x a c t : Nat) (i : Int) (Kn : Fr → Heap → Prop) (K : V → Heap → Prop) : round c_impl_AngleTurns ⟨[0,1,5,6,7,42],0,false⟩ (lb c_impl_AngleTurns 10 Try.f48) (fr_impl_AngleTurns_10 y x a c t i) [] Kn (lk c_impl_AngleTurns 10 Try.f48 [] K) =
  cond (decide (i < 3))
    (Kn [(0, (.float .f32 (y))), (1, (.float .f32 (x))), (5, (.float .f64 (a))), (6, (.float .f64 (c))), (7, (.float .f64 (fdiv FloatKind.f64 t (fadd FloatKind.f64 4607182418800017408 (fsqrt FloatKind.f64 (fadd FloatKind.f64 4607182418800017408 (fmul FloatKind.f64 t t))))))), (42, (.int .i64 (IntKind.wrap IntKind.i64 (i + 1))))] [])
    (LoopE c_impl_AngleTurns ⟨[0, 1, 5, 6, 7, 8, 9, 10], 0, false⟩ (lb c_impl_AngleTurns 15 Try.f48) [(0, (.float .f32 (y))), (1, (.float .f32 (x))), (5, (.float .f64 (a))), (6, (.float .f64 (c))), (7, (.float .f64 (t))), (8, (.float .f64 (fmul FloatKind.f64 t t))), (9, (.float .f64 0)), (10, (.int .i64 15))] [] (lk c_impl_AngleTurns 15 Try.f48 [] K)) := by kernel_rfl
noncomputable def fr_impl_AngleTurns_15 (y x a c t u p : Nat) (i : Int) : Fr := [(0, .float .f32 y), (1, .float .f32 x), (5, .float .f64 a), (6, .float .f64 c), (7, .float .f64 t), (8, .float .f64 u), (9, .float .f64 p), (10, .int .i64 i)]
theorem r_impl_AngleTurns_15 (y x a c t u p : Nat) (i : Int) (Kn : Fr → Heap → Prop) (K : V → Heap → Prop) : round c_impl_AngleTurns ⟨[0,1,5,6,7,8,9,10],0,false⟩ (lb c_impl_AngleTurns 15 Try.f48) (fr_impl_AngleTurns_15 y x a c t u p i) [] Kn (lk c_impl_AngleTurns 15 Try.f48 [] K) =
  cond (decide (i ≥ 1))
    (Kn [(0, (.float .f32 (y))), (1, (.float .f32 (x))), (5, (.float .f64 (a))), (6, (.float .f64 (c))), (7, (.float .f64 (t))), (8, (.float .f64 (u))), (9, (.float .f64 (fsub FloatKind.f64 (fdiv FloatKind.f64 4607182418800017408 (FloatKind.nearest FloatKind.f64 i)) (fmul FloatKind.f64 u p)))), (10, (.int .i64 (IntKind.wrap IntKind.i64 (i - 2))))] [])
    (cond (fgt FloatKind.f64 a c)
      (cond (flt FloatKind.f32 x 0)
        (cond (flt FloatKind.f32 y 0)
          (cond (ovf (fneg FloatKind.f64 (fsub FloatKind.f64 4602678819172646912 (fsub FloatKind.f64 4598175219545276416 (fdiv FloatKind.f64 (fmul FloatKind.f64 4620693217682128896 (fmul FloatKind.f64 t p)) 4618760256179416344)))))
            (K .undef [])
            (K (.float .f32 (narrow (fneg FloatKind.f64 (fsub FloatKind.f64 4602678819172646912 (fsub FloatKind.f64 4598175219545276416 (fdiv FloatKind.f64 (fmul FloatKind.f64 4620693217682128896 (fmul FloatKind.f64 t p)) 4618760256179416344)))))) []))
          (cond (ovf (fsub FloatKind.f64 4602678819172646912 (fsub FloatKind.f64 4598175219545276416 (fdiv FloatKind.f64 (fmul FloatKind.f64 4620693217682128896 (fmul FloatKind.f64 t p)) 4618760256179416344))))
            (K .undef [])
            (K (.float .f32 (narrow (fsub FloatKind.f64 4602678819172646912 (fsub FloatKind.f64 4598175219545276416 (fdiv FloatKind.f64 (fmul FloatKind.f64 4620693217682128896 (fmul FloatKind.f64 t p)) 4618760256179416344))))) [])))
        (cond (flt FloatKind.f32 y 0)
          (cond (ovf (fneg FloatKind.f64 (fsub FloatKind.f64 4598175219545276416 (fdiv FloatKind.f64 (fmul FloatKind.f64 4620693217682128896 (fmul FloatKind.f64 t p)) 4618760256179416344))))
            (K .undef [])
            (K (.float .f32 (narrow (fneg FloatKind.f64 (fsub FloatKind.f64 4598175219545276416 (fdiv FloatKind.f64 (fmul FloatKind.f64 4620693217682128896 (fmul FloatKind.f64 t p)) 4618760256179416344))))) []))
          (cond (ovf (fsub FloatKind.f64 4598175219545276416 (fdiv FloatKind.f64 (fmul FloatKind.f64 4620693217682128896 (fmul FloatKind.f64 t p)) 4618760256179416344)))
            (K .undef [])
            (K (.float .f32 (narrow (fsub FloatKind.f64 4598175219545276416 (fdiv FloatKind.f64 (fmul FloatKind.f64 4620693217682128896 (fmul FloatKind.f64 t p)) 4618760256179416344)))) []))))
      (cond (flt FloatKind.f32 x 0)
        (cond (flt FloatKind.f32 y 0)
          (cond (ovf (fneg FloatKind.f64 (fsub FloatKind.f64 4602678819172646912 (fdiv FloatKind.f64 (fmul FloatKind.f64 4620693217682128896 (fmul FloatKind.f64 t p)) 4618760256179416344))))
            (K .undef [])
            (K (.float .f32 (narrow (fneg FloatKind.f64 (fsub FloatKind.f64 4602678819172646912 (fdiv FloatKind.f64 (fmul FloatKind.f64 4620693217682128896 (fmul FloatKind.f64 t p)) 4618760256179416344))))) []))
          (cond (ovf (fsub FloatKind.f64 4602678819172646912 (fdiv FloatKind.f64 (fmul FloatKind.f64 4620693217682128896 (fmul FloatKind.f64 t p)) 4618760256179416344)))
            (K .undef [])
            (K (.float .f32 (narrow (fsub FloatKind.f64 4602678819172646912 (fdiv FloatKind.f64 (fmul FloatKind.f64 4620693217682128896 (fmul FloatKind.f64 t p)) 4618760256179416344)))) [])))
        (cond (flt FloatKind.f32 y 0)
          (cond (ovf (fneg FloatKind.f64 (fdiv FloatKind.f64 (fmul FloatKind.f64 4620693217682128896 (fmul FloatKind.f64 t p)) 4618760256179416344)))
            (K .undef [])
            (K (.float .f32 (narrow (fneg FloatKind.f64 (fdiv FloatKind.f64 (fmul FloatKind.f64 4620693217682128896 (fmul FloatKind.f64 t p)) 4618760256179416344)))) []))
          (cond (ovf (fdiv FloatKind.f64 (fmul FloatKind.f64 4620693217682128896 (fmul FloatKind.f64 t p)) 4618760256179416344))
            (K .undef [])
            (K (.float .f32 (narrow (fdiv FloatKind.f64 (fmul FloatKind.f64 4620693217682128896 (fmul FloatKind.f64 t p)) 4618760256179416344))) []))))) := by kernel_rfl
theorem w_impl_AngleTurns (y x : Nat) (K : V → Heap → Prop) : wpFn c_impl_AngleTurns Try.f48 (encAs [.cell tF, .cell tF] (y, x, ())) [] K =
  cond (!!List.any [y, x] fun x => !isFin x)
    (cond (ovf 9221120237041090560)
      (K .undef [])
      (K (.float .f32 (narrow 9221120237041090560)) []))
    (cond (feq FloatKind.f32 x 0)
      (cond (feq FloatKind.f32 y 0)
        (K (.float .f32 0) [])
        (cond (!nan FloatKind.f64 (widen y))
          (cond (!nan FloatKind.f64 (widen x))
            (cond (fgt FloatKind.f64 (absW (widen y)) (absW (widen x)))
              (LoopE c_impl_AngleTurns ⟨[0, 1, 5, 6, 7, 42], 0, false⟩ (lb c_impl_AngleTurns 10 Try.f48) [(0, (.float .f32 (y))), (1, (.float .f32 (x))), (5, (.float .f64 (absW (widen y)))), (6, (.float .f64 (absW (widen x)))), (7, (.float .f64 (fdiv FloatKind.f64 (absW (widen x)) (absW (widen y))))), (42, (.int .i64 0))] [] (lk c_impl_AngleTurns 10 Try.f48 [] K))
              (LoopE c_impl_AngleTurns ⟨[0, 1, 5, 6, 7, 42], 0, false⟩ (lb c_impl_AngleTurns 10 Try.f48) [(0, (.float .f32 (y))), (1, (.float .f32 (x))), (5, (.float .f64 (absW (widen y)))), (6, (.float .f64 (absW (widen x)))), (7, (.float .f64 (fdiv FloatKind.f64 (absW (widen y)) (absW (widen x))))), (42, (.int .i64 0))] [] (lk c_impl_AngleTurns 10 Try.f48 [] K)))
            (False))
          (False)))
      (cond (!nan FloatKind.f64 (widen y))
        (cond (!nan FloatKind.f64 (widen x))
          (cond (fgt FloatKind.f64 (absW (widen y)) (absW (widen x)))
            (LoopE c_impl_AngleTurns ⟨[0, 1, 5, 6, 7, 42], 0, false⟩ (lb c_impl_AngleTurns 10 Try.f48) [(0, (.float .f32 (y))), (1, (.float .f32 (x))), (5, (.float .f64 (absW (widen y)))), (6, (.float .f64 (absW (widen x)))), (7, (.float .f64 (fdiv FloatKind.f64 (absW (widen x)) (absW (widen y))))), (42, (.int .i64 0))] [] (lk c_impl_AngleTurns 10 Try.f48 [] K))
            (LoopE c_impl_AngleTurns ⟨[0, 1, 5, 6, 7, 42], 0, false⟩ (lb c_impl_AngleTurns 10 Try.f48) [(0, (.float .f32 (y))), (1, (.float .f32 (x))), (5, (.float .f64 (absW (widen y)))), (6, (.float .f64 (absW (widen x)))), (7, (.float .f64 (fdiv FloatKind.f64 (absW (widen y)) (absW (widen x))))), (42, (.int .i64 0))] [] (lk c_impl_AngleTurns 10 Try.f48 [] K)))
          (False))
        (False))) := by kernel_rfl
noncomputable def s_impl_AngleTurns : Sm := semG [.cell tF, .cell tF] (fun x => match x with | (y, x, _) => angOk y x) fun x => match x with | (y, x, _) => .float .f32 (angleF y x)
theorem ok_impl_AngleTurns : FnOk Try.prog 48 s_impl_AngleTurns := fnOk_typedG (fnOk_runC (C := c_impl_AngleTurns) rfl mixed (.cons ok_impl_finite (.cons ok_math_NaN (.cons ok_math_Abs (.cons ok_math_Sqrt .nil)))) .nil .nil Try.func48 (by kernel_rfl)) fun (x : ((Nat) × (Nat) × Unit)) wf hg K h => by
  obtain ⟨y, x, ⟨⟩⟩ := x
  replace hg : (angOk y x) = true := hg
  replace h : K (.float .f32 (angleF y x)) [] := h
  rw [w_impl_AngleTurns y x K]
  unfold angOk at hg
  simp only [Bool.and_eq_true] at hg
  obtain ⟨h1, h2, h3⟩ := hg
  have ny := (widen_ex (b := y) (q := ev .f32 y) ⟨h1, wf.1.1, rfl⟩).nan
  have nx := (widen_ex (b := x) (q := ev .f32 x) ⟨h2, wf.2.1.1, rfl⟩).nan
  simp only [List.any_cons, List.any_nil, h1, h2, Bool.not_true, Bool.or_false, Bool.not_false, cond_false, ny, nx, cond_true]
  rw [cond_and2]
  unfold angleF at h
  cases e : feq .f32 x 0 && feq .f32 y 0 with
  | true => rw [e] at h; exact h
  | false =>
    rw [e] at h h3
    simp only [Bool.false_or, Bool.not_eq_true'] at h3
    simp only [cond_false] at h ⊢
    have loop : ∀ t, t = (bif fgt .f64 (absW (widen y)) (absW (widen x)) then fdiv .f64 (absW (widen x)) (absW (widen y)) else fdiv .f64 (absW (widen y)) (absW (widen x))) →
        LoopE c_impl_AngleTurns ⟨[0, 1, 5, 6, 7, 42], 0, false⟩ (lb c_impl_AngleTurns 10 Try.f48) (fr_impl_AngleTurns_10 y x (absW (widen y)) (absW (widen x)) t 0) [] (lk c_impl_AngleTurns 10 Try.f48 [] K) := by
      intro t ht
      refine loop_run (σ := Nat) (fun i => fr_impl_AngleTurns_10 y x (absW (widen y)) (absW (widen x)) (angTs t i) i) (fun _ => []) (fun i => i ≤ 3) (fun i => 3 - i) ?_ 0 (Nat.zero_le _)
      intro i hi Kn hk
      rw [r_impl_AngleTurns_10 y x (absW (widen y)) (absW (widen x)) (angTs t i) i Kn K]
      by_cases hlt : i < 3
      · rw [d_t (show (i : Int) < 3 by omega), i64_of (by omega) (by omega)]
        exact hk (i + 1) (by omega) (by omega)
      · have : i = 3 := by omega
        subst this
        rw [d_f (show ¬ ((3 : Nat) : Int) < 3 by decide)]
        simp only [cond_false]
        refine loop_run (σ := Nat) (fun j => fr_impl_AngleTurns_15 y x (absW (widen y)) (absW (widen x)) (angTs t 3) (fmul .f64 (angTs t 3) (angTs t 3)) (angP (fmul .f64 (angTs t 3) (angTs t 3)) j) (15 - 2 * (j : Int))) (fun _ => []) (fun j => j ≤ 8) (fun j => 8 - j) ?_ 0 (Nat.zero_le _)
        intro j hj Kn hk
        rw [r_impl_AngleTurns_15 y x (absW (widen y)) (absW (widen x)) (angTs t 3) (fmul .f64 (angTs t 3) (angTs t 3)) (angP (fmul .f64 (angTs t 3) (angTs t 3)) j) (15 - 2 * (j : Int)) Kn K]
        by_cases hlt : j < 8
        · rw [d_t (show (15 : Int) - 2 * (j : Int) ≥ 1 by omega), i64_of (by omega) (by omega)]
          have := hk (j + 1) hlt (by omega)
          rw [show (15 : Int) - 2 * ((j + 1 : Nat) : Int) = 15 - 2 * (j : Int) - 2 by omega] at this
          exact this
        · have : j = 8 := by omega
          subst this
          rw [d_f (show ¬ (15 : Int) - 2 * ((8 : Nat) : Int) ≥ 1 by decide)]
          simp only [cond_false]
          unfold angleN ang64 at h
          unfold ang64 at h3
          change K (.float .f32 (narrow (bif flt .f32 y 0 then fneg .f64 (bif flt .f32 x 0 then fsub .f64 4602678819172646912 (bif fgt .f64 (absW (widen y)) (absW (widen x)) then fsub .f64 4598175219545276416 (angG (angTs (bif fgt .f64 (absW (widen y)) (absW (widen x)) then fdiv .f64 (absW (widen x)) (absW (widen y)) else fdiv .f64 (absW (widen y)) (absW (widen x))) 3)) else (angG (angTs (bif fgt .f64 (absW (widen y)) (absW (widen x)) then fdiv .f64 (absW (widen x)) (absW (widen y)) else fdiv .f64 (absW (widen y)) (absW (widen x))) 3))) else (bif fgt .f64 (absW (widen y)) (absW (widen x)) then fsub .f64 4598175219545276416 (angG (angTs (bif fgt .f64 (absW (widen y)) (absW (widen x)) then fdiv .f64 (absW (widen x)) (absW (widen y)) else fdiv .f64 (absW (widen y)) (absW (widen x))) 3)) else (angG (angTs (bif fgt .f64 (absW (widen y)) (absW (widen x)) then fdiv .f64 (absW (widen x)) (absW (widen y)) else fdiv .f64 (absW (widen y)) (absW (widen x))) 3)))) else (bif flt .f32 x 0 then fsub .f64 4602678819172646912 (bif fgt .f64 (absW (widen y)) (absW (widen x)) then fsub .f64 4598175219545276416 (angG (angTs (bif fgt .f64 (absW (widen y)) (absW (widen x)) then fdiv .f64 (absW (widen x)) (absW (widen y)) else fdiv .f64 (absW (widen y)) (absW (widen x))) 3)) else (angG (angTs (bif fgt .f64 (absW (widen y)) (absW (widen x)) then fdiv .f64 (absW (widen x)) (absW (widen y)) else fdiv .f64 (absW (widen y)) (absW (widen x))) 3))) else (bif fgt .f64 (absW (widen y)) (absW (widen x)) then fsub .f64 4598175219545276416 (angG (angTs (bif fgt .f64 (absW (widen y)) (absW (widen x)) then fdiv .f64 (absW (widen x)) (absW (widen y)) else fdiv .f64 (absW (widen y)) (absW (widen x))) 3)) else (angG (angTs (bif fgt .f64 (absW (widen y)) (absW (widen x)) then fdiv .f64 (absW (widen x)) (absW (widen y)) else fdiv .f64 (absW (widen y)) (absW (widen x))) 3))))))) [] at h
          change ovf (bif flt .f32 y 0 then fneg .f64 (bif flt .f32 x 0 then fsub .f64 4602678819172646912 (bif fgt .f64 (absW (widen y)) (absW (widen x)) then fsub .f64 4598175219545276416 (angG (angTs (bif fgt .f64 (absW (widen y)) (absW (widen x)) then fdiv .f64 (absW (widen x)) (absW (widen y)) else fdiv .f64 (absW (widen y)) (absW (widen x))) 3)) else (angG (angTs (bif fgt .f64 (absW (widen y)) (absW (widen x)) then fdiv .f64 (absW (widen x)) (absW (widen y)) else fdiv .f64 (absW (widen y)) (absW (widen x))) 3))) else (bif fgt .f64 (absW (widen y)) (absW (widen x)) then fsub .f64 4598175219545276416 (angG (angTs (bif fgt .f64 (absW (widen y)) (absW (widen x)) then fdiv .f64 (absW (widen x)) (absW (widen y)) else fdiv .f64 (absW (widen y)) (absW (widen x))) 3)) else (angG (angTs (bif fgt .f64 (absW (widen y)) (absW (widen x)) then fdiv .f64 (absW (widen x)) (absW (widen y)) else fdiv .f64 (absW (widen y)) (absW (widen x))) 3)))) else (bif flt .f32 x 0 then fsub .f64 4602678819172646912 (bif fgt .f64 (absW (widen y)) (absW (widen x)) then fsub .f64 4598175219545276416 (angG (angTs (bif fgt .f64 (absW (widen y)) (absW (widen x)) then fdiv .f64 (absW (widen x)) (absW (widen y)) else fdiv .f64 (absW (widen y)) (absW (widen x))) 3)) else (angG (angTs (bif fgt .f64 (absW (widen y)) (absW (widen x)) then fdiv .f64 (absW (widen x)) (absW (widen y)) else fdiv .f64 (absW (widen y)) (absW (widen x))) 3))) else (bif fgt .f64 (absW (widen y)) (absW (widen x)) then fsub .f64 4598175219545276416 (angG (angTs (bif fgt .f64 (absW (widen y)) (absW (widen x)) then fdiv .f64 (absW (widen x)) (absW (widen y)) else fdiv .f64 (absW (widen y)) (absW (widen x))) 3)) else (angG (angTs (bif fgt .f64 (absW (widen y)) (absW (widen x)) then fdiv .f64 (absW (widen x)) (absW (widen y)) else fdiv .f64 (absW (widen y)) (absW (widen x))) 3))))) = false at h3
          rw [← ht] at h h3
          cases c1 : fgt .f64 (absW (widen y)) (absW (widen x)) <;> cases c2 : flt .f32 x 0 <;> cases c3 : flt .f32 y 0 <;> rw [c1, c2, c3] at h h3 <;> simp only [cond_true, cond_false] at h h3 ⊢ <;> exact cond_of h3 h
    cases c1 : fgt .f64 (absW (widen y)) (absW (widen x)) with
    | true => exact loop _ (by rw [c1]; rfl)
    | false => exact loop _ (by rw [c1]; rfl)

--B sineF Nat → Nat
def sineF (x : Nat) : Nat := sineN x
--B sineOk Nat → Bool
def sineOk (x : Nat) : Bool := sinOk x
/-! impl.SineTurns -/
noncomputable def a_impl_SineTurns : Nat → Option Ann := fun n => bif Nat.beq n 19 then some ⟨[5,6,7,8,9],0,false⟩ else none
noncomputable def c_impl_SineTurns : Ctx := mkC Try.prog tyT [(122, s_impl_IsFinite), (119, s_math_NaN), (120, s_math_Abs), (123, s_math_Trunc)] [] [] 72 a_impl_SineTurns 0
noncomputable def fr_impl_SineTurns_19 (f z u p : Nat) (b' : Bool) (i : Int) : Fr := [(5, .bool b'), (6, .float .f64 z), (7, .float .f64 u), (8, .float .f64 p), (9, .int .i64 i)]
theorem r_impl_SineTurns_19 (f z u p : Nat) (b' : Bool) (i : Int) (Kn : Fr → Heap → Prop) (K : V → Heap → Prop) : round c_impl_SineTurns ⟨[5,6,7,8,9],0,false⟩ (lb c_impl_SineTurns 19 Try.f49) (fr_impl_SineTurns_19 f z u p b' i) [] Kn (lk c_impl_SineTurns 19 Try.f49 [] K) =
  cond (decide (i ≥ 1))
    (Kn [(5, (.bool (b'))), (6, (.float .f64 (z))), (7, (.float .f64 (u))), (8, (.float .f64 (fsub FloatKind.f64 4607182418800017408 (fdiv FloatKind.f64 (fmul FloatKind.f64 u p) (FloatKind.nearest FloatKind.f64 (IntKind.wrap IntKind.i64 (IntKind.wrap IntKind.i64 (2 * i) * IntKind.wrap IntKind.i64 (IntKind.wrap IntKind.i64 (2 * i) + 1)))))))), (9, (.int .i64 (IntKind.wrap IntKind.i64 (i - 1))))] [])
    (cond (b')
      (cond (ovf (fneg FloatKind.f64 (fmul FloatKind.f64 z p)))
        (K .undef [])
        (K (.float .f32 (narrow (fneg FloatKind.f64 (fmul FloatKind.f64 z p)))) []))
      (cond (ovf (fmul FloatKind.f64 z p))
        (K .undef [])
        (K (.float .f32 (narrow (fmul FloatKind.f64 z p))) []))) := by kernel_rfl
theorem w_impl_SineTurns (x : Nat) (K : V → Heap → Prop) : wpFn c_impl_SineTurns Try.f49 (encAs [.cell tF] (x, ())) [] K =
  cond (!isFin x)
    (cond (ovf 9221120237041090560)
      (K .undef [])
      (K (.float .f32 (narrow 9221120237041090560)) []))
    (cond (!nan FloatKind.f64 (widen x))
      (cond (fge FloatKind.f64 (absW (widen x)) 4841369599423283200)
        (K (.float .f32 0) [])
        (cond (!nan FloatKind.f64 (widen x))
          (cond (!feq FloatKind.f64 (fwhole Ieee.Toward.zero (widen x)) 0)
            (cond (flt FloatKind.f64 (fsub FloatKind.f64 (widen x) (fwhole Ieee.Toward.zero (widen x))) 0)
              (cond (fge FloatKind.f64 (fadd FloatKind.f64 (fsub FloatKind.f64 (widen x) (fwhole Ieee.Toward.zero (widen x))) 4607182418800017408) 4602678819172646912)
                (cond (fgt FloatKind.f64 (fsub FloatKind.f64 (fadd FloatKind.f64 (fsub FloatKind.f64 (widen x) (fwhole Ieee.Toward.zero (widen x))) 4607182418800017408) 4602678819172646912) 4598175219545276416)
                  (LoopE c_impl_SineTurns ⟨[5, 6, 7, 8, 9], 0, false⟩ (lb c_impl_SineTurns 19 Try.f49) [(5, (.bool (fge FloatKind.f64 (fadd FloatKind.f64 (fsub FloatKind.f64 (widen x) (fwhole Ieee.Toward.zero (widen x))) 4607182418800017408) 4602678819172646912))), (6, (.float .f64 (fmul FloatKind.f64 (fsub FloatKind.f64 4602678819172646912 (fsub FloatKind.f64 (fadd FloatKind.f64 (fsub FloatKind.f64 (widen x) (fwhole Ieee.Toward.zero (widen x))) 4607182418800017408) 4602678819172646912)) 4618760256179416344))), (7, (.float .f64 (fmul FloatKind.f64 (fmul FloatKind.f64 (fsub FloatKind.f64 4602678819172646912 (fsub FloatKind.f64 (fadd FloatKind.f64 (fsub FloatKind.f64 (widen x) (fwhole Ieee.Toward.zero (widen x))) 4607182418800017408) 4602678819172646912)) 4618760256179416344) (fmul FloatKind.f64 (fsub FloatKind.f64 4602678819172646912 (fsub FloatKind.f64 (fadd FloatKind.f64 (fsub FloatKind.f64 (widen x) (fwhole Ieee.Toward.zero (widen x))) 4607182418800017408) 4602678819172646912)) 4618760256179416344)))), (8, (.float .f64 4607182418800017408)), (9, (.int .i64 8))] [] (lk c_impl_SineTurns 19 Try.f49 [] K))
                  (LoopE c_impl_SineTurns ⟨[5, 6, 7, 8, 9], 0, false⟩ (lb c_impl_SineTurns 19 Try.f49) [(5, (.bool (fge FloatKind.f64 (fadd FloatKind.f64 (fsub FloatKind.f64 (widen x) (fwhole Ieee.Toward.zero (widen x))) 4607182418800017408) 4602678819172646912))), (6, (.float .f64 (fmul FloatKind.f64 (fsub FloatKind.f64 (fadd FloatKind.f64 (fsub FloatKind.f64 (widen x) (fwhole Ieee.Toward.zero (widen x))) 4607182418800017408) 4602678819172646912) 4618760256179416344))), (7, (.float .f64 (fmul FloatKind.f64 (fmul FloatKind.f64 (fsub FloatKind.f64 (fadd FloatKind.f64 (fsub FloatKind.f64 (widen x) (fwhole Ieee.Toward.zero (widen x))) 4607182418800017408) 4602678819172646912) 4618760256179416344) (fmul FloatKind.f64 (fsub FloatKind.f64 (fadd FloatKind.f64 (fsub FloatKind.f64 (widen x) (fwhole Ieee.Toward.zero (widen x))) 4607182418800017408) 4602678819172646912) 4618760256179416344)))), (8, (.float .f64 4607182418800017408)), (9, (.int .i64 8))] [] (lk c_impl_SineTurns 19 Try.f49 [] K)))
                (cond (fgt FloatKind.f64 (fadd FloatKind.f64 (fsub FloatKind.f64 (widen x) (fwhole Ieee.Toward.zero (widen x))) 4607182418800017408) 4598175219545276416)
                  (LoopE c_impl_SineTurns ⟨[5, 6, 7, 8, 9], 0, false⟩ (lb c_impl_SineTurns 19 Try.f49) [(5, (.bool (fge FloatKind.f64 (fadd FloatKind.f64 (fsub FloatKind.f64 (widen x) (fwhole Ieee.Toward.zero (widen x))) 4607182418800017408) 4602678819172646912))), (6, (.float .f64 (fmul FloatKind.f64 (fsub FloatKind.f64 4602678819172646912 (fadd FloatKind.f64 (fsub FloatKind.f64 (widen x) (fwhole Ieee.Toward.zero (widen x))) 4607182418800017408)) 4618760256179416344))), (7, (.float .f64 (fmul FloatKind.f64 (fmul FloatKind.f64 (fsub FloatKind.f64 4602678819172646912 (fadd FloatKind.f64 (fsub FloatKind.f64 (widen x) (fwhole Ieee.Toward.zero (widen x))) 4607182418800017408)) 4618760256179416344) (fmul FloatKind.f64 (fsub FloatKind.f64 4602678819172646912 (fadd FloatKind.f64 (fsub FloatKind.f64 (widen x) (fwhole Ieee.Toward.zero (widen x))) 4607182418800017408)) 4618760256179416344)))), (8, (.float .f64 4607182418800017408)), (9, (.int .i64 8))] [] (lk c_impl_SineTurns 19 Try.f49 [] K))
                  (LoopE c_impl_SineTurns ⟨[5, 6, 7, 8, 9], 0, false⟩ (lb c_impl_SineTurns 19 Try.f49) [(5, (.bool (fge FloatKind.f64 (fadd FloatKind.f64 (fsub FloatKind.f64 (widen x) (fwhole Ieee.Toward.zero (widen x))) 4607182418800017408) 4602678819172646912))), (6, (.float .f64 (fmul FloatKind.f64 (fadd FloatKind.f64 (fsub FloatKind.f64 (widen x) (fwhole Ieee.Toward.zero (widen x))) 4607182418800017408) 4618760256179416344))), (7, (.float .f64 (fmul FloatKind.f64 (fmul FloatKind.f64 (fadd FloatKind.f64 (fsub FloatKind.f64 (widen x) (fwhole Ieee.Toward.zero (widen x))) 4607182418800017408) 4618760256179416344) (fmul FloatKind.f64 (fadd FloatKind.f64 (fsub FloatKind.f64 (widen x) (fwhole Ieee.Toward.zero (widen x))) 4607182418800017408) 4618760256179416344)))), (8, (.float .f64 4607182418800017408)), (9, (.int .i64 8))] [] (lk c_impl_SineTurns 19 Try.f49 [] K))))
              (cond (fge FloatKind.f64 (fsub FloatKind.f64 (widen x) (fwhole Ieee.Toward.zero (widen x))) 4602678819172646912)
                (cond (fgt FloatKind.f64 (fsub FloatKind.f64 (fsub FloatKind.f64 (widen x) (fwhole Ieee.Toward.zero (widen x))) 4602678819172646912) 4598175219545276416)
                  (LoopE c_impl_SineTurns ⟨[5, 6, 7, 8, 9], 0, false⟩ (lb c_impl_SineTurns 19 Try.f49) [(5, (.bool (fge FloatKind.f64 (fsub FloatKind.f64 (widen x) (fwhole Ieee.Toward.zero (widen x))) 4602678819172646912))), (6, (.float .f64 (fmul FloatKind.f64 (fsub FloatKind.f64 4602678819172646912 (fsub FloatKind.f64 (fsub FloatKind.f64 (widen x) (fwhole Ieee.Toward.zero (widen x))) 4602678819172646912)) 4618760256179416344))), (7, (.float .f64 (fmul FloatKind.f64 (fmul FloatKind.f64 (fsub FloatKind.f64 4602678819172646912 (fsub FloatKind.f64 (fsub FloatKind.f64 (widen x) (fwhole Ieee.Toward.zero (widen x))) 4602678819172646912)) 4618760256179416344) (fmul FloatKind.f64 (fsub FloatKind.f64 4602678819172646912 (fsub FloatKind.f64 (fsub FloatKind.f64 (widen x) (fwhole Ieee.Toward.zero (widen x))) 4602678819172646912)) 4618760256179416344)))), (8, (.float .f64 4607182418800017408)), (9, (.int .i64 8))] [] (lk c_impl_SineTurns 19 Try.f49 [] K))
                  (LoopE c_impl_SineTurns ⟨[5, 6, 7, 8, 9], 0, false⟩ (lb c_impl_SineTurns 19 Try.f49) [(5, (.bool (fge FloatKind.f64 (fsub FloatKind.f64 (widen x) (fwhole Ieee.Toward.zero (widen x))) 4602678819172646912))), (6, (.float .f64 (fmul FloatKind.f64 (fsub FloatKind.f64 (fsub FloatKind.f64 (widen x) (fwhole Ieee.Toward.zero (widen x))) 4602678819172646912) 4618760256179416344))), (7, (.float .f64 (fmul FloatKind.f64 (fmul FloatKind.f64 (fsub FloatKind.f64 (fsub FloatKind.f64 (widen x) (fwhole Ieee.Toward.zero (widen x))) 4602678819172646912) 4618760256179416344) (fmul FloatKind.f64 (fsub FloatKind.f64 (fsub FloatKind.f64 (widen x) (fwhole Ieee.Toward.zero (widen x))) 4602678819172646912) 4618760256179416344)))), (8, (.float .f64 4607182418800017408)), (9, (.int .i64 8))] [] (lk c_impl_SineTurns 19 Try.f49 [] K)))
                (cond (fgt FloatKind.f64 (fsub FloatKind.f64 (widen x) (fwhole Ieee.Toward.zero (widen x))) 4598175219545276416)
                  (LoopE c_impl_SineTurns ⟨[5, 6, 7, 8, 9], 0, false⟩ (lb c_impl_SineTurns 19 Try.f49) [(5, (.bool (fge FloatKind.f64 (fsub FloatKind.f64 (widen x) (fwhole Ieee.Toward.zero (widen x))) 4602678819172646912))), (6, (.float .f64 (fmul FloatKind.f64 (fsub FloatKind.f64 4602678819172646912 (fsub FloatKind.f64 (widen x) (fwhole Ieee.Toward.zero (widen x)))) 4618760256179416344))), (7, (.float .f64 (fmul FloatKind.f64 (fmul FloatKind.f64 (fsub FloatKind.f64 4602678819172646912 (fsub FloatKind.f64 (widen x) (fwhole Ieee.Toward.zero (widen x)))) 4618760256179416344) (fmul FloatKind.f64 (fsub FloatKind.f64 4602678819172646912 (fsub FloatKind.f64 (widen x) (fwhole Ieee.Toward.zero (widen x)))) 4618760256179416344)))), (8, (.float .f64 4607182418800017408)), (9, (.int .i64 8))] [] (lk c_impl_SineTurns 19 Try.f49 [] K))
                  (LoopE c_impl_SineTurns ⟨[5, 6, 7, 8, 9], 0, false⟩ (lb c_impl_SineTurns 19 Try.f49) [(5, (.bool (fge FloatKind.f64 (fsub FloatKind.f64 (widen x) (fwhole Ieee.Toward.zero (widen x))) 4602678819172646912))), (6, (.float .f64 (fmul FloatKind.f64 (fsub FloatKind.f64 (widen x) (fwhole Ieee.Toward.zero (widen x))) 4618760256179416344))), (7, (.float .f64 (fmul FloatKind.f64 (fmul FloatKind.f64 (fsub FloatKind.f64 (widen x) (fwhole Ieee.Toward.zero (widen x))) 4618760256179416344) (fmul FloatKind.f64 (fsub FloatKind.f64 (widen x) (fwhole Ieee.Toward.zero (widen x))) 4618760256179416344)))), (8, (.float .f64 4607182418800017408)), (9, (.int .i64 8))] [] (lk c_impl_SineTurns 19 Try.f49 [] K)))))
            (cond (flt FloatKind.f64 (widen x) 0)
              (cond (fge FloatKind.f64 (fadd FloatKind.f64 (widen x) 4607182418800017408) 4602678819172646912)
                (cond (fgt FloatKind.f64 (fsub FloatKind.f64 (fadd FloatKind.f64 (widen x) 4607182418800017408) 4602678819172646912) 4598175219545276416)
                  (LoopE c_impl_SineTurns ⟨[5, 6, 7, 8, 9], 0, false⟩ (lb c_impl_SineTurns 19 Try.f49) [(5, (.bool (fge FloatKind.f64 (fadd FloatKind.f64 (widen x) 4607182418800017408) 4602678819172646912))), (6, (.float .f64 (fmul FloatKind.f64 (fsub FloatKind.f64 4602678819172646912 (fsub FloatKind.f64 (fadd FloatKind.f64 (widen x) 4607182418800017408) 4602678819172646912)) 4618760256179416344))), (7, (.float .f64 (fmul FloatKind.f64 (fmul FloatKind.f64 (fsub FloatKind.f64 4602678819172646912 (fsub FloatKind.f64 (fadd FloatKind.f64 (widen x) 4607182418800017408) 4602678819172646912)) 4618760256179416344) (fmul FloatKind.f64 (fsub FloatKind.f64 4602678819172646912 (fsub FloatKind.f64 (fadd FloatKind.f64 (widen x) 4607182418800017408) 4602678819172646912)) 4618760256179416344)))), (8, (.float .f64 4607182418800017408)), (9, (.int .i64 8))] [] (lk c_impl_SineTurns 19 Try.f49 [] K))
                  (LoopE c_impl_SineTurns ⟨[5, 6, 7, 8, 9], 0, false⟩ (lb c_impl_SineTurns 19 Try.f49) [(5, (.bool (fge FloatKind.f64 (fadd FloatKind.f64 (widen x) 4607182418800017408) 4602678819172646912))), (6, (.float .f64 (fmul FloatKind.f64 (fsub FloatKind.f64 (fadd FloatKind.f64 (widen x) 4607182418800017408) 4602678819172646912) 4618760256179416344))), (7, (.float .f64 (fmul FloatKind.f64 (fmul FloatKind.f64 (fsub FloatKind.f64 (fadd FloatKind.f64 (widen x) 4607182418800017408) 4602678819172646912) 4618760256179416344) (fmul FloatKind.f64 (fsub FloatKind.f64 (fadd FloatKind.f64 (widen x) 4607182418800017408) 4602678819172646912) 4618760256179416344)))), (8, (.float .f64 4607182418800017408)), (9, (.int .i64 8))] [] (lk c_impl_SineTurns 19 Try.f49 [] K)))
                (cond (fgt FloatKind.f64 (fadd FloatKind.f64 (widen x) 4607182418800017408) 4598175219545276416)
                  (LoopE c_impl_SineTurns ⟨[5, 6, 7, 8, 9], 0, false⟩ (lb c_impl_SineTurns 19 Try.f49) [(5, (.bool (fge FloatKind.f64 (fadd FloatKind.f64 (widen x) 4607182418800017408) 4602678819172646912))), (6, (.float .f64 (fmul FloatKind.f64 (fsub FloatKind.f64 4602678819172646912 (fadd FloatKind.f64 (widen x) 4607182418800017408)) 4618760256179416344))), (7, (.float .f64 (fmul FloatKind.f64 (fmul FloatKind.f64 (fsub FloatKind.f64 4602678819172646912 (fadd FloatKind.f64 (widen x) 4607182418800017408)) 4618760256179416344) (fmul FloatKind.f64 (fsub FloatKind.f64 4602678819172646912 (fadd FloatKind.f64 (widen x) 4607182418800017408)) 4618760256179416344)))), (8, (.float .f64 4607182418800017408)), (9, (.int .i64 8))] [] (lk c_impl_SineTurns 19 Try.f49 [] K))
                  (LoopE c_impl_SineTurns ⟨[5, 6, 7, 8, 9], 0, false⟩ (lb c_impl_SineTurns 19 Try.f49) [(5, (.bool (fge FloatKind.f64 (fadd FloatKind.f64 (widen x) 4607182418800017408) 4602678819172646912))), (6, (.float .f64 (fmul FloatKind.f64 (fadd FloatKind.f64 (widen x) 4607182418800017408) 4618760256179416344))), (7, (.float .f64 (fmul FloatKind.f64 (fmul FloatKind.f64 (fadd FloatKind.f64 (widen x) 4607182418800017408) 4618760256179416344) (fmul FloatKind.f64 (fadd FloatKind.f64 (widen x) 4607182418800017408) 4618760256179416344)))), (8, (.float .f64 4607182418800017408)), (9, (.int .i64 8))] [] (lk c_impl_SineTurns 19 Try.f49 [] K))))
              (cond (fge FloatKind.f64 (widen x) 4602678819172646912)
                (cond (fgt FloatKind.f64 (fsub FloatKind.f64 (widen x) 4602678819172646912) 4598175219545276416)
                  (LoopE c_impl_SineTurns ⟨[5, 6, 7, 8, 9], 0, false⟩ (lb c_impl_SineTurns 19 Try.f49) [(5, (.bool (fge FloatKind.f64 (widen x) 4602678819172646912))), (6, (.float .f64 (fmul FloatKind.f64 (fsub FloatKind.f64 4602678819172646912 (fsub FloatKind.f64 (widen x) 4602678819172646912)) 4618760256179416344))), (7, (.float .f64 (fmul FloatKind.f64 (fmul FloatKind.f64 (fsub FloatKind.f64 4602678819172646912 (fsub FloatKind.f64 (widen x) 4602678819172646912)) 4618760256179416344) (fmul FloatKind.f64 (fsub FloatKind.f64 4602678819172646912 (fsub FloatKind.f64 (widen x) 4602678819172646912)) 4618760256179416344)))), (8, (.float .f64 4607182418800017408)), (9, (.int .i64 8))] [] (lk c_impl_SineTurns 19 Try.f49 [] K))
                  (LoopE c_impl_SineTurns ⟨[5, 6, 7, 8, 9], 0, false⟩ (lb c_impl_SineTurns 19 Try.f49) [(5, (.bool (fge FloatKind.f64 (widen x) 4602678819172646912))), (6, (.float .f64 (fmul FloatKind.f64 (fsub FloatKind.f64 (widen x) 4602678819172646912) 4618760256179416344))), (7, (.float .f64 (fmul FloatKind.f64 (fmul FloatKind.f64 (fsub FloatKind.f64 (widen x) 4602678819172646912) 4618760256179416344) (fmul FloatKind.f64 (fsub FloatKind.f64 (widen x) 4602678819172646912) 4618760256179416344)))), (8, (.float .f64 4607182418800017408)), (9, (.int .i64 8))] [] (lk c_impl_SineTurns 19 Try.f49 [] K)))
                (cond (fgt FloatKind.f64 (widen x) 4598175219545276416)
                  (LoopE c_impl_SineTurns ⟨[5, 6, 7, 8, 9], 0, false⟩ (lb c_impl_SineTurns 19 Try.f49) [(5, (.bool (fge FloatKind.f64 (widen x) 4602678819172646912))), (6, (.float .f64 (fmul FloatKind.f64 (fsub FloatKind.f64 4602678819172646912 (widen x)) 4618760256179416344))), (7, (.float .f64 (fmul FloatKind.f64 (fmul FloatKind.f64 (fsub FloatKind.f64 4602678819172646912 (widen x)) 4618760256179416344) (fmul FloatKind.f64 (fsub FloatKind.f64 4602678819172646912 (widen x)) 4618760256179416344)))), (8, (.float .f64 4607182418800017408)), (9, (.int .i64 8))] [] (lk c_impl_SineTurns 19 Try.f49 [] K))
                  (LoopE c_impl_SineTurns ⟨[5, 6, 7, 8, 9], 0, false⟩ (lb c_impl_SineTurns 19 Try.f49) [(5, (.bool (fge FloatKind.f64 (widen x) 4602678819172646912))), (6, (.float .f64 (fmul FloatKind.f64 (widen x) 4618760256179416344))), (7, (.float .f64 (fmul FloatKind.f64 (fmul FloatKind.f64 (widen x) 4618760256179416344) (fmul FloatKind.f64 (widen x) 4618760256179416344)))), (8, (.float .f64 4607182418800017408)), (9, (.int .i64 8))] [] (lk c_impl_SineTurns 19 Try.f49 [] K))))))
          (False)))
      (False)) := by kernel_rfl
noncomputable def s_impl_SineTurns : Sm := semG [.cell tF] (fun x => match x with | (x, _) => sineOk x) fun x => match x with | (x, _) => .float .f32 (sineF x)
theorem ok_impl_SineTurns : FnOk Try.prog 49 s_impl_SineTurns := fnOk_typedG (fnOk_runC (C := c_impl_SineTurns) rfl mixed (.cons ok_impl_IsFinite (.cons ok_math_NaN (.cons ok_math_Abs (.cons ok_math_Trunc .nil)))) .nil .nil Try.func49 (by kernel_rfl)) fun (x : ((Nat) × Unit)) wf hg K h => by
  obtain ⟨x, ⟨⟩⟩ := x
  replace hg : (sineOk x) = true := hg
  replace h : K (.float .f32 (sineF x)) [] := h
  rw [w_impl_SineTurns x K]
  obtain ⟨g1, g2, g3, g4, hov⟩ := sinOk_trunc hg wf.1.1
  have g3 : fge .f64 (absW (widen x)) 4841369599423283200 = false := g3
  have g4 : isFin x = true := g4
  simp only [g1, g2, g3, g4, Bool.not_true, Bool.not_false, cond_true, cond_false]
  replace h : K (.float .f32 (narrow (sine64 x))) [] := h
  have loop : ∀ (w : Nat) (tb : Bool), (sine64 x = bif tb then fneg .f64 (sinO w) else sinO w) → LoopE c_impl_SineTurns ⟨[5, 6, 7, 8, 9], 0, false⟩ (lb c_impl_SineTurns 19 Try.f49) (fr_impl_SineTurns_19 0 (fmul .f64 w 4618760256179416344) (fmul .f64 (fmul .f64 w 4618760256179416344) (fmul .f64 w 4618760256179416344)) 4607182418800017408 tb 8) [] (lk c_impl_SineTurns 19 Try.f49 [] K) := by
    intro w tb hs
    rw [hs] at h hov
    generalize hz : fmul .f64 w 4618760256179416344 = z
    refine loop_run (σ := Nat) (fun j => fr_impl_SineTurns_19 0 z (fmul .f64 z z) (sinP (fmul .f64 z z) j) tb (8 - (j : Int))) (fun _ => []) (fun j => j ≤ 8) (fun j => 8 - j) ?_ 0 (Nat.zero_le _)
    intro j hj Kn hk
    rw [r_impl_SineTurns_19 0 z (fmul .f64 z z) (sinP (fmul .f64 z z) j) tb (8 - (j : Int)) Kn K]
    by_cases hlt : j < 8
    · have b1 : 2 * (8 - (j : Int)) * (2 * (8 - (j : Int)) + 1) ≤ 16 * 17 := Int.mul_le_mul (by omega) (by omega) (by omega) (by omega)
      have b2 : 0 ≤ 2 * (8 - (j : Int)) * (2 * (8 - (j : Int)) + 1) := Int.mul_nonneg (by omega) (by omega)
      rw [d_t (show (8 : Int) - (j : Int) ≥ 1 by omega), i64_of (n := 2 * (8 - (j : Int))) (by omega) (by omega), i64_of (n := 2 * (8 - (j : Int)) + 1) (by omega) (by omega), i64_of (n := 2 * (8 - (j : Int)) * (2 * (8 - (j : Int)) + 1)) (by omega) (by omega), i64_of (n := 8 - (j : Int) - 1) (by omega) (by omega)]
      have := hk (j + 1) hlt (by omega)
      rw [show (8 : Int) - ((j + 1 : Nat) : Int) = 8 - (j : Int) - 1 by omega] at this
      exact this
    · have : j = 8 := by omega
      subst this
      rw [d_f (show ¬ (8 : Int) - ((8 : Nat) : Int) ≥ 1 by decide)]
      subst hz
      cases tb <;> simp only [cond_true, cond_false] at hov h ⊢ <;> exact cond_of hov h
  cases c1 : flt .f64 (widen x) 0
  · cases c2 : fge .f64 (widen x) 4602678819172646912
    · cases c3 : fgt .f64 (widen x) 4598175219545276416 <;> exact loop _ _ (by unfold sine64; simp only [c1, c2, c3, cond_true, cond_false])
    · cases c3 : fgt .f64 (fsub .f64 (widen x) 4602678819172646912) 4598175219545276416 <;> exact loop _ _ (by unfold sine64; simp only [c1, c2, c3, cond_true, cond_false])
  · cases c2 : fge .f64 (fadd .f64 (widen x) 4607182418800017408) 4602678819172646912
    · cases c3 : fgt .f64 (fadd .f64 (widen x) 4607182418800017408) 4598175219545276416 <;> exact loop _ _ (by unfold sine64; simp only [c1, c2, c3, cond_true, cond_false])
    · cases c3 : fgt .f64 (fsub .f64 (fadd .f64 (widen x) 4607182418800017408) 4602678819172646912) 4598175219545276416 <;> exact loop _ _ (by unfold sine64; simp only [c1, c2, c3, cond_true, cond_false])

--B gapF Nat → Nat → Nat
def gapF (x y : Nat) : Nat := gapN x y
/-! laws.b10Gap -/
noncomputable def c_laws_b10Gap : Ctx := mkC Try.prog tyT [] [] [] 14 (fun _ => none) 0
theorem w_laws_b10Gap (x y : Nat) (K : V → Heap → Prop) : wpFn c_laws_b10Gap Try.f50 (encAs [.cell (.float .f64), .cell (.float .f64)] (x, y, ())) [] K =
  cond (flt FloatKind.f64 x y)
    (K (.float .f64 (fsub FloatKind.f64 y x)) [])
    (K (.float .f64 (fsub FloatKind.f64 x y)) []) := by kernel_rfl
noncomputable def s_laws_b10Gap : Sm := semT [.cell (.float .f64), .cell (.float .f64)] fun x => match x with | (x, y, _) => .float .f64 (gapF x y)
theorem ok_laws_b10Gap : FnOk Try.prog 50 s_laws_b10Gap := fnOk_typed (fnOk_runC (C := c_laws_b10Gap) rfl mixed .nil .nil .nil Try.func50 (by kernel_rfl)) fun (x : ((Nat) × (Nat) × Unit)) wf K h => by
  obtain ⟨x, y, ⟨⟩⟩ := x
  replace h : K (.float .f64 (gapF x y)) [] := h
  rw [w_laws_b10Gap x y K]
  unfold gapF gapN at h
  cases e : flt .f64 x y <;> rw [e] at h <;> exact h

/-! flushed numbers -/
theorem abs_bits32 {x : Nat} (h : x < 4294967296) : Int.toNat (IntKind.wrap IntKind.u32 (↑(BitVec.toNat (BitVec.ofInt 32 (↑x : Int) &&& ~~~BitVec.ofInt 32 2147483648)) : Int)) = x % 2147483648 := by
  have e : BitVec.toNat (BitVec.ofInt 32 (↑x : Int) &&& ~~~BitVec.ofInt 32 2147483648) = x % 2147483648 := by
    rw [BitVec.toNat_and, BitVec.ofInt_natCast, BitVec.toNat_ofNat, Nat.mod_eq_of_lt (show x < 2 ^ 32 from h)]
    exact Nat.and_two_pow_sub_one_eq_mod x 31
  rw [e, wrap_of (by have : IntKind.u32.min = 0 := rfl; omega) (by have : IntKind.u32.max = 4294967295 := rfl; omega)]
  omega
theorem and_sign {x : Nat} (h : x < 4294967296) : x &&& 2147483648 = x / 2147483648 * 2147483648 := by
  apply Nat.eq_of_testBit_eq
  intro i
  rw [Nat.testBit_and, show (2147483648 : Nat) = 2 ^ 31 from rfl, Nat.testBit_two_pow, Nat.mul_comm, Nat.testBit_two_pow_mul]
  have hd : x / 2 ^ 31 = 0 ∨ x / 2 ^ 31 = 1 := by omega
  by_cases e : 31 = i
  · subst e
    simp [Nat.testBit_eq_decide_div_mod_eq]
  · rcases Nat.lt_or_ge i 31 with hi | hi
    · simp [e, show ¬ 31 ≤ i by omega]
    · simp only [decide_eq_false e, Bool.and_false, decide_eq_true hi, Bool.true_and]
      obtain ⟨k, rfl⟩ : ∃ k, i = 31 + (k + 1) := ⟨i - 32, by omega⟩
      rw [show 31 + (k + 1) - 31 = k + 1 by omega]
      rcases hd with hd | hd <;> rw [hd] <;> simp [Nat.testBit_succ]
theorem sign_bits32 {x : Nat} (h : x < 4294967296) : Int.toNat (IntKind.wrap IntKind.u32 (↑(BitVec.toNat (BitVec.ofInt 32 (↑x : Int) &&& BitVec.ofInt 32 2147483648)) : Int)) = x / 2147483648 * 2147483648 := by
  have e : BitVec.toNat (BitVec.ofInt 32 (↑x : Int) &&& BitVec.ofInt 32 2147483648) = x / 2147483648 * 2147483648 := by
    rw [BitVec.toNat_and, BitVec.ofInt_natCast, BitVec.toNat_ofNat, Nat.mod_eq_of_lt (show x < 2 ^ 32 from h)]
    show x &&& 2147483648 = _
    exact and_sign h
  rw [e, wrap_of (by have : IntKind.u32.min = 0 := rfl; omega) (by have : IntKind.u32.max = 4294967295 := rfl; omega)]
  omega
--B abs32 Nat → Nat
def abs32 (x : Nat) : Nat := bif nan .f32 x then qnan .f32 else x % 2147483648
/-! impl.abs -/
noncomputable def c_impl_abs : Ctx := mkC Try.prog tyT [(128, s_math_Float32bits), (127, s_math_Float32frombits)] [] [] 7 (fun _ => none) 0
theorem w_impl_abs (x : Nat) (K : V → Heap → Prop) : wpFn c_impl_abs Try.f129 (encAs [.cell tF] (x, ())) [] K =
  cond (nan FloatKind.f32 x)
    (K (.float .f32 2143289344) [])
    (K (.float .f32 (canon FloatKind.f32 (Int.toNat (IntKind.wrap IntKind.u32 (↑(BitVec.toNat (BitVec.ofInt 32 (↑x : Int) &&& ~~~BitVec.ofInt 32 2147483648)) : Int))))) []) := by kernel_rfl
noncomputable def s_impl_abs : Sm := semT [.cell tF] fun x => match x with | (x, _) => .float .f32 (abs32 x)
theorem ok_impl_abs : FnOk Try.prog 129 s_impl_abs := fnOk_typed (fnOk_runC (C := c_impl_abs) rfl mixed (.cons ok_math_Float32bits (.cons ok_math_Float32frombits .nil)) .nil .nil Try.func129 (by kernel_rfl)) fun (x : ((Nat) × Unit)) wf K h => by
  obtain ⟨x, ⟨⟩⟩ := x
  replace h : K (.float .f32 (abs32 x)) [] := h
  rw [w_impl_abs x K]
  unfold abs32 at h
  have hl : x < 4294967296 := wf.1.1
  cases e : nan .f32 x with
  | true => rw [e] at h; exact h
  | false =>
    rw [e] at h
    simp only [cond_false] at h ⊢
    rw [abs_bits32 hl]
    have hn : nan .f32 (x % 2147483648) = false := by
      rw [nan_false] at e ⊢
      show x % 2147483648 % 2147483648 ≤ _
      rw [Nat.mod_mod]
      exact e
    rw [canon_not hn]
    exact h

--B isSub Nat → Bool
def isSub (x : Nat) : Bool := !feq .f32 x 0 && flt .f32 (abs32 x) 8388608
/-! impl.IsSubnormal -/
noncomputable def c_impl_IsSubnormal : Ctx := mkC Try.prog tyT [(129, s_impl_abs)] [] [] 10 (fun _ => none) 0
theorem w_impl_IsSubnormal (x : Nat) (K : V → Heap → Prop) : wpFn c_impl_IsSubnormal Try.f53 (encAs [.cell tF] (x, ())) [] K =
  cond (!feq FloatKind.f32 x 0)
    (K (.bool (flt FloatKind.f32 (abs32 x) 8388608)) [])
    (K (.bool false) []) := by kernel_rfl
noncomputable def s_impl_IsSubnormal : Sm := semT [.cell tF] fun x => match x with | (x, _) => .bool (isSub x)
theorem ok_impl_IsSubnormal : FnOk Try.prog 53 s_impl_IsSubnormal := fnOk_typed (fnOk_runC (C := c_impl_IsSubnormal) rfl mixed (.cons ok_impl_abs .nil) .nil .nil Try.func53 (by kernel_rfl)) fun (x : ((Nat) × Unit)) wf K h => by
  obtain ⟨x, ⟨⟩⟩ := x
  replace h : K (.bool (isSub x)) [] := h
  rw [w_impl_IsSubnormal x K]
  unfold isSub at h
  cases e : feq .f32 x 0 <;> rw [e] at h <;> exact h

--B flushF Nat → Nat
def flushF (x : Nat) : Nat := bif isSub x then x / 2147483648 * 2147483648 else x
/-! impl.FlushNumber -/
noncomputable def c_impl_FlushNumber : Ctx := mkC Try.prog tyT [(53, s_impl_IsSubnormal), (128, s_math_Float32bits), (127, s_math_Float32frombits)] [] [] 10 (fun _ => none) 0
theorem w_impl_FlushNumber (x : Nat) (K : V → Heap → Prop) : wpFn c_impl_FlushNumber Try.f52 (encAs [.cell tF] (x, ())) [] K =
  cond (isSub x)
    (cond (nan FloatKind.f32 x)
      (False)
      (K (.float .f32 (canon FloatKind.f32 (Int.toNat (IntKind.wrap IntKind.u32 (↑(BitVec.toNat (BitVec.ofInt 32 (↑x : Int) &&& BitVec.ofInt 32 2147483648)) : Int))))) []))
    (K (.float .f32 (x)) []) := by kernel_rfl
noncomputable def s_impl_FlushNumber : Sm := semT [.cell tF] fun x => match x with | (x, _) => .float .f32 (flushF x)
theorem ok_impl_FlushNumber : FnOk Try.prog 52 s_impl_FlushNumber := fnOk_typed (fnOk_runC (C := c_impl_FlushNumber) rfl mixed (.cons ok_impl_IsSubnormal (.cons ok_math_Float32bits (.cons ok_math_Float32frombits .nil))) .nil .nil Try.func52 (by kernel_rfl)) fun (x : ((Nat) × Unit)) wf K h => by
  obtain ⟨x, ⟨⟩⟩ := x
  replace h : K (.float .f32 (flushF x)) [] := h
  rw [w_impl_FlushNumber x K]
  unfold flushF at h
  have hl : x < 4294967296 := wf.1.1
  cases e : isSub x with
  | false => rw [e] at h; exact h
  | true =>
    rw [e] at h
    simp only [cond_true] at h ⊢
    have hn : nan .f32 x = false := by
      cases hn : nan .f32 x with
      | false => rfl
      | true =>
        unfold isSub abs32 at e
        rw [hn, cond_true, flt_nan (.inl (nan_qnan .f32)), Bool.and_false] at e
        cases e
    rw [hn, sign_bits32 hl]
    have hc : canon .f32 (x / 2147483648 * 2147483648) = x / 2147483648 * 2147483648 := by
      refine canon_not (nan_false.2 ?_)
      show x / 2147483648 * 2147483648 % 2147483648 ≤ _
      rw [Nat.mul_mod_left]
      exact Nat.zero_le _
    rw [hc]
    exact h

/-! points in sixteenths -/
theorem q_sixteen : Ex .f32 1098907648 ((2 ^ 4 : Nat) : Rat) := (nearest_lit (x := 1098907648) 16 (by decide) (by decide +kernel)).x.cast rfl
theorem q_16 {i : Int} (hi : i.natAbs ≤ 64) : Q 4 64 (fdiv .f32 (FloatKind.f32.nearest i) 1098907648) ((i : Rat) / ((2 ^ 4 : Nat) : Rat)) := q_div 4 1098907648 hi (by decide) (by decide) q_sixteen
theorem w16 (i : Int) : (i : Rat) / ((2 ^ 4 : Nat) : Rat) * W = ((i * 72057594037927936 : Int) : Rat) := by
  have e : ((2 ^ 4 : Nat) : Rat)⁻¹ * W = ((72057594037927936 : Int) : Rat) := by unfold W; decide +kernel
  rw [Rat.div_def, Rat.mul_assoc, Rat.intCast_mul, e]
theorem ap_16 {i : Int} (hi : i.natAbs ≤ 64) : Ap .f32 (fdiv .f32 (FloatKind.f32.nearest i) 1098907648) (i * 72057594037927936) 0 := Ap.exact (q_16 hi).x (w16 i)
theorem in_16 {i j : Int} (hi : i.natAbs ≤ 64) (hj : j.natAbs ≤ 64) : Ap .f32 (innerV (fdiv .f32 (FloatKind.f32.nearest i) 1098907648, fdiv .f32 (FloatKind.f32.nearest j) 1098907648, 0) (fdiv .f32 (FloatKind.f32.nearest i) 1098907648, fdiv .f32 (FloatKind.f32.nearest j) 1098907648, 0)) (((i.natAbs * i.natAbs + j.natAbs * j.natAbs) * 4503599627370496 : Nat) : Int) 0 := by
  have hv : QV 4 64 (fdiv .f32 (FloatKind.f32.nearest i) 1098907648, fdiv .f32 (FloatKind.f32.nearest j) 1098907648, 0) ((i : Rat) / ((2 ^ 4 : Nat) : Rat)) ((j : Rat) / ((2 ^ 4 : Nat) : Rat)) 0 := ⟨q_16 hi, q_16 hj, ⟨q_zero.x, Gr.zero 4 64⟩⟩
  have h := hv.inner hv (by decide) (by decide)
  refine Ap.exact h.x ?_
  have e1 : (((i.natAbs * i.natAbs + j.natAbs * j.natAbs) * 4503599627370496 : Nat) : Int) = (i * i + j * j) * 4503599627370496 := by
    have a1 : ((i.natAbs * i.natAbs : Nat) : Int) = i * i := Int.natAbs_mul_self
    have a2 : ((j.natAbs * j.natAbs : Nat) : Int) = j * j := Int.natAbs_mul_self
    rw [← a1, ← a2]
    simp only [Int.natCast_mul, Int.natCast_add]
    rfl
  rw [e1]
  simp only [Rat.intCast_mul, Rat.intCast_add]
  have e2 : ((2 ^ 4 : Nat) : Rat)⁻¹ * ((2 ^ 4 : Nat) : Rat)⁻¹ * W = ((4503599627370496 : Int) : Rat) := by unfold W; decide +kernel
  rw [← e2, Rat.div_def, Rat.div_def]
  grind
theorem zero_16 : fdiv .f32 (FloatKind.f32.nearest 0) 1098907648 = 0 := by decide +kernel
theorem feq_16 {i : Int} (hi : i.natAbs ≤ 64) : feq .f32 (fdiv .f32 (FloatKind.f32.nearest i) 1098907648) 0 = decide (i = 0) ∧ feq .f32 (fneg .f32 (fdiv .f32 (FloatKind.f32.nearest i) 1098907648)) 0 = decide (i = 0) := by
  have h := ap_16 hi
  by_cases e : i = 0
  · subst e
    rw [zero_16]
    exact ⟨by decide +kernel, by decide +kernel⟩
  · rw [decide_eq_false e]
    have key : ∀ {w : Nat} {n : Int}, Ap .f32 w n 0 → n ≠ 0 → feq .f32 w 0 = false := by
      intro w n hw hn
      rw [feq_ev hw.nan (by decide +kernel), decide_eq_false]
      have e0 : ev .f32 0 = 0 := (ev_zero (by decide)).2 (.inl rfl)
      rw [e0]
      intro hc
      rcases Int.lt_or_gt_of_ne hn with hl | hl
      · have := hw.lt_of ap32_zero (by omega)
        rw [hc, e0] at this
        grind
      · have := ap32_zero.lt_of hw (by omega)
        rw [hc, e0] at this
        grind
    exact ⟨key h (m_ne e), key h.neg (by have := m_ne e; omega)⟩

theorem flush_law {z : Nat} (h : Wd z) : isSub (flushF z) = false ∧ (isSub z != (z == flushF z)) = true := by
  have hl : z < 4294967296 := h.1
  unfold flushF
  cases e : isSub z with
  | false =>
    simp only [cond_false]
    exact ⟨e, by rw [beq_self_eq_true]; rfl⟩
  | true =>
    simp only [cond_true]
    have hz : feq .f32 z 0 = false := by
      cases hz : feq .f32 z 0 with
      | false => rfl
      | true => unfold isSub at e; rw [hz] at e; cases e
    have hc : z / 2147483648 * 2147483648 = 0 ∨ z / 2147483648 * 2147483648 = 2147483648 := by omega
    have f0 : feq .f32 0 0 = true := by decide +kernel
    have f1 : feq .f32 2147483648 0 = true := by decide +kernel
    have hw : isSub (z / 2147483648 * 2147483648) = false := by
      unfold isSub
      rcases hc with hc | hc <;> rw [hc]
      · rw [f0]; rfl
      · rw [f1]; rfl
    refine ⟨hw, ?_⟩
    have hne : z ≠ z / 2147483648 * 2147483648 := by
      intro he
      rcases hc with hc | hc
      · rw [hc] at he; rw [he, f0] at hz; cases hz
      · rw [hc] at he; rw [he, f1] at hz; cases hz
    rw [beq_eq_false_iff_ne.2 hne]
    rfl

/-! laws.FnAngles -/
noncomputable def c_laws_FnAngles : Ctx := mkC Try.prog tyT [(13, s_laws_b10Long), (14, s_laws_b10At), (48, s_impl_AngleTurns), (32, s_impl_LongOf), (49, s_impl_SineTurns), (50, s_laws_b10Gap), (51, s_spec_B10Number), (52, s_impl_FlushNumber), (53, s_impl_IsSubnormal), (19, s_spec_SameNumber)] [] [] 105 (fun _ => none) 0
theorem w_laws_FnAngles (xs ys : List Int) (K : V → Heap → Prop) : wpFn c_laws_FnAngles Try.f8 (encAs [.cell tB, .cell tB] (xs, ys, ())) [] K =
  cond (decide (1048576 < List.length xs) || decide (1048576 < List.length ys))
    (K (.bool true) [])
    (cond (angOk (fdiv FloatKind.f32 (FloatKind.nearest FloatKind.f32 (IntKind.wrap IntKind.i64 (bAtV xs 1 129 - 64))) 1098907648) (fdiv FloatKind.f32 (FloatKind.nearest FloatKind.f32 (IntKind.wrap IntKind.i64 (bAtV xs 0 129 - 64))) 1098907648))
      (cond (angOk (fneg FloatKind.f32 (fdiv FloatKind.f32 (FloatKind.nearest FloatKind.f32 (IntKind.wrap IntKind.i64 (bAtV xs 1 129 - 64))) 1098907648)) (fdiv FloatKind.f32 (FloatKind.nearest FloatKind.f32 (IntKind.wrap IntKind.i64 (bAtV xs 0 129 - 64))) 1098907648))
        (cond (feq FloatKind.f32 (fdiv FloatKind.f32 (FloatKind.nearest FloatKind.f32 (IntKind.wrap IntKind.i64 (bAtV xs 0 129 - 64))) 1098907648) 0)
          (cond (feq FloatKind.f32 (fdiv FloatKind.f32 (FloatKind.nearest FloatKind.f32 (IntKind.wrap IntKind.i64 (bAtV xs 1 129 - 64))) 1098907648) 0)
            (K (.bool (feq FloatKind.f32 (angleF (fdiv FloatKind.f32 (FloatKind.nearest FloatKind.f32 (IntKind.wrap IntKind.i64 (bAtV xs 1 129 - 64))) 1098907648) (fdiv FloatKind.f32 (FloatKind.nearest FloatKind.f32 (IntKind.wrap IntKind.i64 (bAtV xs 0 129 - 64))) 1098907648)) 0)) [])
            (cond (sineOk (angleF (fdiv FloatKind.f32 (FloatKind.nearest FloatKind.f32 (IntKind.wrap IntKind.i64 (bAtV xs 1 129 - 64))) 1098907648) (fdiv FloatKind.f32 (FloatKind.nearest FloatKind.f32 (IntKind.wrap IntKind.i64 (bAtV xs 0 129 - 64))) 1098907648)))
              (cond (sineOk (fadd FloatKind.f32 (angleF (fdiv FloatKind.f32 (FloatKind.nearest FloatKind.f32 (IntKind.wrap IntKind.i64 (bAtV xs 1 129 - 64))) 1098907648) (fdiv FloatKind.f32 (FloatKind.nearest FloatKind.f32 (IntKind.wrap IntKind.i64 (bAtV xs 0 129 - 64))) 1098907648)) 1048576000))
                (cond (!fge FloatKind.f32 (angleF (fdiv FloatKind.f32 (FloatKind.nearest FloatKind.f32 (IntKind.wrap IntKind.i64 (bAtV xs 1 129 - 64))) 1098907648) (fdiv FloatKind.f32 (FloatKind.nearest FloatKind.f32 (IntKind.wrap IntKind.i64 (bAtV xs 0 129 - 64))) 1098907648)) 3204448256)
                  (K (.bool false) [])
                  (cond (fgt FloatKind.f32 (angleF (fdiv FloatKind.f32 (FloatKind.nearest FloatKind.f32 (IntKind.wrap IntKind.i64 (bAtV xs 1 129 - 64))) 1098907648) (fdiv FloatKind.f32 (FloatKind.nearest FloatKind.f32 (IntKind.wrap IntKind.i64 (bAtV xs 0 129 - 64))) 1098907648)) 1056964608)
                    (K (.bool false) [])
                    (cond (fgt FloatKind.f64 (gapF (fmul FloatKind.f64 (widen (sineF (angleF (fdiv FloatKind.f32 (FloatKind.nearest FloatKind.f32 (IntKind.wrap IntKind.i64 (bAtV xs 1 129 - 64))) 1098907648) (fdiv FloatKind.f32 (FloatKind.nearest FloatKind.f32 (IntKind.wrap IntKind.i64 (bAtV xs 0 129 - 64))) 1098907648)))) (widen (longV (fdiv FloatKind.f32 (FloatKind.nearest FloatKind.f32 (IntKind.wrap IntKind.i64 (bAtV xs 0 129 - 64))) 1098907648, fdiv FloatKind.f32 (FloatKind.nearest FloatKind.f32 (IntKind.wrap IntKind.i64 (bAtV xs 1 129 - 64))) 1098907648, 0)))) (widen (fdiv FloatKind.f32 (FloatKind.nearest FloatKind.f32 (IntKind.wrap IntKind.i64 (bAtV xs 1 129 - 64))) 1098907648))) 4547007122018943789)
                      (K (.bool false) [])
                      (cond (fgt FloatKind.f64 (gapF (fmul FloatKind.f64 (widen (sineF (fadd FloatKind.f32 (angleF (fdiv FloatKind.f32 (FloatKind.nearest FloatKind.f32 (IntKind.wrap IntKind.i64 (bAtV xs 1 129 - 64))) 1098907648) (fdiv FloatKind.f32 (FloatKind.nearest FloatKind.f32 (IntKind.wrap IntKind.i64 (bAtV xs 0 129 - 64))) 1098907648)) 1048576000))) (widen (longV (fdiv FloatKind.f32 (FloatKind.nearest FloatKind.f32 (IntKind.wrap IntKind.i64 (bAtV xs 0 129 - 64))) 1098907648, fdiv FloatKind.f32 (FloatKind.nearest FloatKind.f32 (IntKind.wrap IntKind.i64 (bAtV xs 1 129 - 64))) 1098907648, 0)))) (widen (fdiv FloatKind.f32 (FloatKind.nearest FloatKind.f32 (IntKind.wrap IntKind.i64 (bAtV xs 0 129 - 64))) 1098907648))) 4547007122018943789)
                        (K (.bool false) [])
                        (cond (!feq FloatKind.f32 (fdiv FloatKind.f32 (FloatKind.nearest FloatKind.f32 (IntKind.wrap IntKind.i64 (bAtV xs 1 129 - 64))) 1098907648) 0)
                          (cond (!feq FloatKind.f32 (angleF (fdiv FloatKind.f32 (FloatKind.nearest FloatKind.f32 (IntKind.wrap IntKind.i64 (bAtV xs 1 129 - 64))) 1098907648) (fdiv FloatKind.f32 (FloatKind.nearest FloatKind.f32 (IntKind.wrap IntKind.i64 (bAtV xs 0 129 - 64))) 1098907648)) (fneg FloatKind.f32 (angleF (fneg FloatKind.f32 (fdiv FloatKind.f32 (FloatKind.nearest FloatKind.f32 (IntKind.wrap IntKind.i64 (bAtV xs 1 129 - 64))) 1098907648)) (fdiv FloatKind.f32 (FloatKind.nearest FloatKind.f32 (IntKind.wrap IntKind.i64 (bAtV xs 0 129 - 64))) 1098907648))))
                            (K (.bool false) [])
                            (cond (!isSub (flushF (numV ys)))
                              (K (.bool (isSub (numV ys) != (numV ys == flushF (numV ys)))) [])
                              (K (.bool false) [])))
                          (cond (!isSub (flushF (numV ys)))
                            (K (.bool (isSub (numV ys) != (numV ys == flushF (numV ys)))) [])
                            (K (.bool false) [])))))))
                (False))
              (False)))
          (cond (sineOk (angleF (fdiv FloatKind.f32 (FloatKind.nearest FloatKind.f32 (IntKind.wrap IntKind.i64 (bAtV xs 1 129 - 64))) 1098907648) (fdiv FloatKind.f32 (FloatKind.nearest FloatKind.f32 (IntKind.wrap IntKind.i64 (bAtV xs 0 129 - 64))) 1098907648)))
            (cond (sineOk (fadd FloatKind.f32 (angleF (fdiv FloatKind.f32 (FloatKind.nearest FloatKind.f32 (IntKind.wrap IntKind.i64 (bAtV xs 1 129 - 64))) 1098907648) (fdiv FloatKind.f32 (FloatKind.nearest FloatKind.f32 (IntKind.wrap IntKind.i64 (bAtV xs 0 129 - 64))) 1098907648)) 1048576000))
              (cond (!fge FloatKind.f32 (angleF (fdiv FloatKind.f32 (FloatKind.nearest FloatKind.f32 (IntKind.wrap IntKind.i64 (bAtV xs 1 129 - 64))) 1098907648) (fdiv FloatKind.f32 (FloatKind.nearest FloatKind.f32 (IntKind.wrap IntKind.i64 (bAtV xs 0 129 - 64))) 1098907648)) 3204448256)
                (K (.bool false) [])
                (cond (fgt FloatKind.f32 (angleF (fdiv FloatKind.f32 (FloatKind.nearest FloatKind.f32 (IntKind.wrap IntKind.i64 (bAtV xs 1 129 - 64))) 1098907648) (fdiv FloatKind.f32 (FloatKind.nearest FloatKind.f32 (IntKind.wrap IntKind.i64 (bAtV xs 0 129 - 64))) 1098907648)) 1056964608)
                  (K (.bool false) [])
                  (cond (fgt FloatKind.f64 (gapF (fmul FloatKind.f64 (widen (sineF (angleF (fdiv FloatKind.f32 (FloatKind.nearest FloatKind.f32 (IntKind.wrap IntKind.i64 (bAtV xs 1 129 - 64))) 1098907648) (fdiv FloatKind.f32 (FloatKind.nearest FloatKind.f32 (IntKind.wrap IntKind.i64 (bAtV xs 0 129 - 64))) 1098907648)))) (widen (longV (fdiv FloatKind.f32 (FloatKind.nearest FloatKind.f32 (IntKind.wrap IntKind.i64 (bAtV xs 0 129 - 64))) 1098907648, fdiv FloatKind.f32 (FloatKind.nearest FloatKind.f32 (IntKind.wrap IntKind.i64 (bAtV xs 1 129 - 64))) 1098907648, 0)))) (widen (fdiv FloatKind.f32 (FloatKind.nearest FloatKind.f32 (IntKind.wrap IntKind.i64 (bAtV xs 1 129 - 64))) 1098907648))) 4547007122018943789)
                    (K (.bool false) [])
                    (cond (fgt FloatKind.f64 (gapF (fmul FloatKind.f64 (widen (sineF (fadd FloatKind.f32 (angleF (fdiv FloatKind.f32 (FloatKind.nearest FloatKind.f32 (IntKind.wrap IntKind.i64 (bAtV xs 1 129 - 64))) 1098907648) (fdiv FloatKind.f32 (FloatKind.nearest FloatKind.f32 (IntKind.wrap IntKind.i64 (bAtV xs 0 129 - 64))) 1098907648)) 1048576000))) (widen (longV (fdiv FloatKind.f32 (FloatKind.nearest FloatKind.f32 (IntKind.wrap IntKind.i64 (bAtV xs 0 129 - 64))) 1098907648, fdiv FloatKind.f32 (FloatKind.nearest FloatKind.f32 (IntKind.wrap IntKind.i64 (bAtV xs 1 129 - 64))) 1098907648, 0)))) (widen (fdiv FloatKind.f32 (FloatKind.nearest FloatKind.f32 (IntKind.wrap IntKind.i64 (bAtV xs 0 129 - 64))) 1098907648))) 4547007122018943789)
                      (K (.bool false) [])
                      (cond (!feq FloatKind.f32 (fdiv FloatKind.f32 (FloatKind.nearest FloatKind.f32 (IntKind.wrap IntKind.i64 (bAtV xs 1 129 - 64))) 1098907648) 0)
                        (cond (!feq FloatKind.f32 (angleF (fdiv FloatKind.f32 (FloatKind.nearest FloatKind.f32 (IntKind.wrap IntKind.i64 (bAtV xs 1 129 - 64))) 1098907648) (fdiv FloatKind.f32 (FloatKind.nearest FloatKind.f32 (IntKind.wrap IntKind.i64 (bAtV xs 0 129 - 64))) 1098907648)) (fneg FloatKind.f32 (angleF (fneg FloatKind.f32 (fdiv FloatKind.f32 (FloatKind.nearest FloatKind.f32 (IntKind.wrap IntKind.i64 (bAtV xs 1 129 - 64))) 1098907648)) (fdiv FloatKind.f32 (FloatKind.nearest FloatKind.f32 (IntKind.wrap IntKind.i64 (bAtV xs 0 129 - 64))) 1098907648))))
                          (K (.bool false) [])
                          (cond (!isSub (flushF (numV ys)))
                            (K (.bool (isSub (numV ys) != (numV ys == flushF (numV ys)))) [])
                            (K (.bool false) [])))
                        (cond (!isSub (flushF (numV ys)))
                          (K (.bool (isSub (numV ys) != (numV ys == flushF (numV ys)))) [])
                          (K (.bool false) [])))))))
              (False))
            (False)))
        (False))
      (False)) := by kernel_rfl
noncomputable def s_laws_FnAngles : Sm := semT [.cell tB, .cell tB] fun x => match x with | (xs, ys, _) => .bool true
theorem ok_laws_FnAngles : FnOk Try.prog 8 s_laws_FnAngles := fnOk_typed (fnOk_runC (C := c_laws_FnAngles) rfl mixed (.cons ok_laws_b10Long (.cons ok_laws_b10At (.cons ok_impl_AngleTurns (.cons ok_impl_LongOf (.cons ok_impl_SineTurns (.cons ok_laws_b10Gap (.cons ok_spec_B10Number (.cons ok_impl_FlushNumber (.cons ok_impl_IsSubnormal (.cons ok_spec_SameNumber .nil)))))))))) .nil .nil Try.func8 (by kernel_rfl)) fun (x : ((List Int) × (List Int) × Unit)) wf K h => by
  obtain ⟨xs, ys, ⟨⟩⟩ := x
  replace h : K (.bool true) [] := h
  rw [w_laws_FnAngles xs ys K]
  cases e0 : decide (1048576 < xs.length) || decide (1048576 < ys.length) with
  | true => exact h
  | false =>
    simp only [cond_false]
    have hb : bytes xs := bytes_of wf.1
    have ri := bAt_range hb (i := 0) (n := 129) (by decide) (by decide)
    have rj := bAt_range hb (i := 1) (n := 129) (by decide) (by decide)
    rw [i64_of (n := bAtV xs 0 129 - 64) (by omega) (by omega), i64_of (n := bAtV xs 1 129 - 64) (by omega) (by omega)]
    have hi : (bAtV xs 0 129 - 64).natAbs ≤ 64 := by omega
    have hj : (bAtV xs 1 129 - 64).natAbs ≤ 64 := by omega
    generalize bAtV xs 0 129 - 64 = i at *
    generalize bAtV xs 1 129 - 64 = j at *
    obtain ⟨f1, f2⟩ := flush_law (wd_num ys)
    have X := ap_16 hi
    have Y := ap_16 hj
    have Lx := in_16 hi hj
    obtain ⟨x1, _⟩ := feq_16 hi
    obtain ⟨y1, y2⟩ := feq_16 hj
    have finX : isFin (fdiv .f32 (FloatKind.f32.nearest i) 1098907648) = true := X.f
    have finY : isFin (fdiv .f32 (FloatKind.f32.nearest j) 1098907648) = true := Y.f
    have finN : isFin (fneg .f32 (fdiv .f32 (FloatKind.f32.nearest j) 1098907648)) = true := Y.neg.f
    have pt : ¬ (i = 0 ∧ j = 0) → PtLaw (fdiv .f32 (FloatKind.f32.nearest j) 1098907648) (fdiv .f32 (FloatKind.f32.nearest i) 1098907648) (innerV (fdiv .f32 (FloatKind.f32.nearest i) 1098907648, fdiv .f32 (FloatKind.f32.nearest j) 1098907648, 0) (fdiv .f32 (FloatKind.f32.nearest i) 1098907648, fdiv .f32 (FloatKind.f32.nearest j) 1098907648, 0)) := by
      intro hne
      by_cases hi0 : i = 0
      · subst hi0
        rw [zero_16] at *
        exact axis_y Y (fun e => hne ⟨rfl, e⟩) hj (by simpa using Lx)
      · by_cases hj0 : j = 0
        · subst hj0
          rw [zero_16] at *
          exact axis_x X hi0 hi (by simpa using Lx)
        · exact pt_law X Y hi0 hj0 hi hj Lx
    generalize fdiv .f32 (FloatKind.f32.nearest i) 1098907648 = x at *
    generalize fdiv .f32 (FloatKind.f32.nearest j) 1098907648 = y at *
    by_cases hz : i = 0 ∧ j = 0
    · rw [d_t hz.1] at x1
      rw [d_t hz.2] at y1 y2
      have k1 : angOk y x = true := by unfold angOk; rw [finX, finY, x1, y1]; rfl
      have k2 : angOk (fneg .f32 y) x = true := by unfold angOk; rw [finX, finN, x1, y2]; rfl
      have k3 : angleF y x = 0 := by unfold angleF; rw [x1, y1]; rfl
      rw [k1, k2, x1, y1, k3]
      exact h
    · have L := pt hz
      have ez : (feq .f32 x 0 && feq .f32 y 0) = false := by
        rw [x1, y1, ← Bool.decide_and, d_f hz]
      have ez2 : (feq .f32 x 0 && feq .f32 (fneg .f32 y) 0) = false := by
        rw [x1, y2, ← Bool.decide_and, d_f hz]
      have k1 : angOk y x = true := by unfold angOk; rw [finX, finY, L.o1, Bool.not_false, Bool.or_true]; rfl
      have k2 : angOk (fneg .f32 y) x = true := by unfold angOk; rw [finX, finN, L.o2, Bool.not_false, Bool.or_true]; rfl
      have k3 : angleF y x = angleN y x := by unfold angleF; rw [ez]; rfl
      have k4 : angleF (fneg .f32 y) x = angleN (fneg .f32 y) x := by unfold angleF; rw [ez2]; rfl
      have s1 : sineOk (angleN y x) = true := L.ok
      have s2 : sineOk (fadd .f32 (angleN y x) 1048576000) = true := L.okc
      have s3 : fgt .f64 (gapF (fmul .f64 (widen (sineF (angleN y x))) (widen (longV (x, y, 0)))) (widen y)) 4547007122018943789 = false := L.s
      have s4 : fgt .f64 (gapF (fmul .f64 (widen (sineF (fadd .f32 (angleN y x) 1048576000))) (widen (longV (x, y, 0)))) (widen x)) 4547007122018943789 = false := L.c
      have s5 := L.ge
      have s6 := L.gt
      have s7 := L.n
      generalize feq .f32 x 0 = bx at *
      rw [k3, k4, k1, k2, s1, s2, s3, s4, s5, s6, f1, f2]
      simp only [Bool.not_true, Bool.not_false, cond_true, cond_false]
      cases bx
      · rcases s7 with s7 | s7
        · rw [s7]; exact h
        · rw [s7]
          cases feq .f32 y 0 <;> exact h
      · simp only [Bool.true_and] at ez
        rw [ez] at s7 ⊢
        rcases s7 with s7 | s7
        · cases s7
        · rw [s7]; exact h

end Go.Proofs.Ytkdkcdkjfiabfaa
