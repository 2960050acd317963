/- Bytes of shades. -/
import Derived.Test.YtkdkcdkjfiabfaaDoorNum
import Derived.Test.YtkdkcdkjfiabfaaDoorFlK
import Derived.Test.YtkdkcdkjfiabfaaDoorLay
import Derived.Test.YtkdkcdkjfiabfaaDoorEvNum
set_option linter.unusedVariables false
set_option linter.unusedSimpArgs false
set_option maxRecDepth 100000
namespace Go.Proofs.YtkdkcdkjfiabfaaDoor
open Go.Ev Go.Ev.Fl

abbrev Str := List UInt8
abbrev s_strconv_FormatInt : Sm := sFmt10
theorem ok_strconv_FormatInt : FnOk Tryd.prog 34 (sFmt10) := ok_Fmt10 Tryd.laysMn173 rfl (by kernel_rfl)
abbrev s_math_archFloor : Sm := sWhole .down
theorem ok_math_archFloor : FnOk Tryd.prog 44 (sWhole .down) := ok_whole "math.archFloor" .down Tryd.func44 (by kernel_rfl) (by kernel_rfl) (by kernel_rfl) (by kernel_rfl)

/-! impl.Decimal -/
noncomputable def c_impl_Decimal : Ctx := mkC Tryd.prog tyT [(34, s_strconv_FormatInt)] [] [] 5 (fun _ => none) 0
theorem w_impl_Decimal (n : Int) (K : V → Heap → Prop) : wpFn c_impl_Decimal Tryd.f9 (encAs [.cell (.int .i64)] (n, ())) [] K =
  K (.str (itoaL n)) [] := by kernel_rfl
noncomputable def s_impl_Decimal : Sm := semT [.cell (.int .i64)] fun x => match x with | (n, _) => .str (itoaL n)
theorem ok_impl_Decimal : FnOk Tryd.prog 9 s_impl_Decimal := fnOk_typed (fnOk_runC (C := c_impl_Decimal) rfl mixed (.cons ok_strconv_FormatInt .nil) .nil .nil Tryd.func9 (by kernel_rfl)) fun (x : ((Int) × Unit)) wf K h => by
  obtain ⟨n, ⟨⟩⟩ := x
  replace h : K (.str (itoaL n)) [] := h
  rw [w_impl_Decimal n K]
  exact h

/-! math.Floor -/
noncomputable def c_math_Floor : Ctx := mkC Tryd.prog tyT [(44, s_math_archFloor)] [] [] 7 (fun _ => none) 0
theorem w_math_Floor (x : Nat) (K : V → Heap → Prop) : wpFn c_math_Floor Tryd.f28 (encAs [.cell (.float .f64)] (x, ())) [] K =
  cond (nan FloatKind.f64 x)
    (False)
    (K (.float .f64 (fwhole Ieee.Toward.down x)) []) := by kernel_rfl
noncomputable def s_math_Floor : Sm := semG [.cell (.float .f64)] (fun x => match x with | (x, _) => !nan .f64 x) fun x => match x with | (x, _) => .float .f64 (fwhole .down x)
theorem ok_math_Floor : FnOk Tryd.prog 28 s_math_Floor := fnOk_typedG (fnOk_runC (C := c_math_Floor) rfl mixed (.cons ok_math_archFloor .nil) .nil .nil Tryd.func28 (by kernel_rfl)) fun (x : ((Nat) × Unit)) wf hg K h => by
  obtain ⟨x, ⟨⟩⟩ := x
  replace hg : (!nan .f64 x) = true := hg
  replace h : K (.float .f64 (fwhole .down x)) [] := h
  rw [w_math_Floor x K]
  cases e : nan .f64 x <;> rw [e] at hg
  · exact h
  · cases hg

def shadeN (x : Nat) : Nat := fwhole .down (fadd .f64 (fmul .f64 (widen x) 4643176031446892544) 4602678819172646912)
--B byteN Nat → Int
def byteN (x : Nat) : Int := bif nan .f32 x || flt .f32 x 0 then 0 else bif fgt .f32 x 1065353216 then 255 else (f2i .f64 (shadeN x) .i64).getD 0
theorem ex_half : Ex .f64 4602678819172646912 (1 / 2) := by
  have h2 := (ex_int64 (n := 1) (by decide)).div ex_two (by decide) ((show Rep .f64 (1 / 2) from rep64 1 1 (by grind) (by decide) (by decide)))
  have e : fdiv .f64 (FloatKind.f64.nearest 1) 4611686018427387904 = 4602678819172646912 := by decide +kernel
  rw [e] at h2
  exact h2.cast rfl
theorem ex_255 : Ex .f64 4643176031446892544 255 := by
  have h := ex_int64 (n := 255) (by decide)
  have e : FloatKind.f64.nearest 255 = 4643176031446892544 := by decide +kernel
  rw [e] at h
  exact h
theorem shade_nan (x : Nat) (h : nan .f32 x = false) (hl : x < 2 * signOf .f32) (h0 : flt .f32 x 0 = false) (h1 : fgt .f32 x 1065353216 = false) :
    nan .f64 (fadd .f64 (fmul .f64 (widen x) 4643176031446892544) 4602678819172646912) = false ∧ ∃ n : Nat, n ≤ 255 ∧ f2i .f64 (shadeN x) .i64 = some (n : Int) := by
  rw [flt_ev h (by decide), q_zero.x.e] at h0
  rw [fgt_ev h (by decide), q_one.x.e] at h1
  have h0 := of_decide_eq_false h0
  have h1 := of_decide_eq_false h1
  have X : Ex .f32 x (ev .f32 x) := by
    refine ⟨?_, hl, rfl⟩
    have hr := pos_range h
    have h2 : ev .f32 x ≤ ev .f32 1065353216 := by rw [q_one.x.e]; grind
    have h3 : ev .f32 0 ≤ ev .f32 x := by rw [q_zero.x.e]; grind
    have p2 := ev_le_iff.1 h2
    have p3 := ev_le_iff.1 h3
    have e2 : pos .f32 1065353216 = 1065353216 := by decide +kernel
    have e3 : pos .f32 0 = 0 := by decide +kernel
    have hI : infOf .f32 = 2139095040 := rfl
    rw [fin_pos h]; omega
  have W := widen_ex X
  generalize ev .f32 x = q at *
  have M := W.rmul ex_255
  have z64 : Ex .f64 0 0 := (ex_int64 (n := 0) (by decide) |> fun e => (show FloatKind.f64.nearest 0 = 0 by decide +kernel) ▸ e)
  have m0 := M.ge (w := 0) z64.nan z64.l (by rw [z64.e]; grind)
  have m1 := M.le (w := 4643176031446892544) ex_255.nan ex_255.l (by rw [ex_255.e]; grind)
  rw [z64.e] at m0
  rw [ex_255.e] at m1
  have fm : fin .f64 (fmul .f64 (widen x) 4643176031446892544) = true := by
    have p2 := ev_le_iff.1 (show ev .f64 (fmul .f64 (widen x) 4643176031446892544) ≤ ev .f64 4643176031446892544 by rw [ex_255.e]; exact m1)
    have p3 := ev_le_iff.1 (show ev .f64 0 ≤ ev .f64 (fmul .f64 (widen x) 4643176031446892544) by rw [z64.e]; exact m0)
    have e2 : pos .f64 4643176031446892544 = 4643176031446892544 := by decide +kernel
    have e3 : pos .f64 0 = 0 := by decide +kernel
    have hI : infOf .f64 = 9218868437227405312 := rfl
    rw [fin_pos M.nan]; omega
  have MX : Ex .f64 (fmul .f64 (widen x) 4643176031446892544) (ev .f64 (fmul .f64 (widen x) 4643176031446892544)) := ⟨fm, M.lt2, rfl⟩
  unfold shadeN
  generalize fmul .f64 (widen x) 4643176031446892544 = y at *
  have A := MX.radd ex_half
  obtain ⟨w1, f1, f2, f3⟩ : Rep .f64 (511 / 2) := rep64 511 1 (by grind) (by decide) (by decide)
  have a0 := A.ge (w := 0) z64.nan z64.l (by rw [z64.e]; grind)
  have a1 := A.le (w := w1) (fin_nan f1) f2 (by rw [f3]; grind)
  rw [z64.e] at a0
  have fa : fin .f64 (fadd .f64 y 4602678819172646912) = true := by
    have p2 := ev_le_iff.1 a1
    have p3 := ev_le_iff.1 (show ev .f64 0 ≤ ev .f64 (fadd .f64 y 4602678819172646912) by rw [z64.e]; exact a0)
    have e3 : pos .f64 0 = 0 := by decide +kernel
    have p4 := (fin_pos (fin_nan f1)).1 f1
    have hI : infOf .f64 = 9218868437227405312 := rfl
    rw [fin_pos A.nan]; omega
  rw [f3] at a1
  refine ⟨A.nan, ?_⟩
  obtain ⟨n, n1, n2, n3⟩ := floor_ex (v := fadd .f64 y 4602678819172646912) ⟨fa, A.lt2, rfl⟩ a0 (by grind)
  have hn : n ≤ 255 := by
    have : (n : Rat) < ((256 : Nat) : Rat) := by
      have : ((256 : Nat) : Rat) = 256 := rfl
      grind
    have := Rat.natCast_lt_natCast.1 this
    omega
  have e1 : IntKind.i64.min = -9223372036854775808 := rfl
  have e2 : IntKind.i64.max = 9223372036854775807 := rfl
  exact ⟨n, hn, f2i_ex n3 (by omega) (by omega)⟩
theorem byteN_range (x : Nat) (hl : x < 2 * signOf .f32) : 0 ≤ byteN x ∧ byteN x ≤ 255 := by
  unfold byteN
  cases h1 : nan .f32 x || flt .f32 x 0 with
  | true => simp only [cond_true]; omega
  | false =>
    cases h2 : fgt .f32 x 1065353216 with
    | true => simp only [cond_true, cond_false]; omega
    | false =>
      rw [Bool.or_eq_false_iff] at h1
      obtain ⟨_, n, hn, e⟩ := shade_nan x h1.1 hl h1.2 h2
      rw [e]
      simp only [cond_false, Option.getD_some]
      omega

/-! impl.ByteOf -/
noncomputable def c_impl_ByteOf : Ctx := mkC Tryd.prog tyT [(27, s_impl_isNaN), (28, s_math_Floor)] [] [] 19 (fun _ => none) 0
theorem w_impl_ByteOf (x : Nat) (K : V → Heap → Prop) : wpFn c_impl_ByteOf Tryd.f7 (encAs [.cell tF] (x, ())) [] K =
  cond (nan FloatKind.f32 x)
    (K (.int .i64 0) [])
    (cond (flt FloatKind.f32 x 0)
      (K (.int .i64 0) [])
      (cond (fgt FloatKind.f32 x 1065353216)
        (K (.int .i64 255) [])
        (cond (!nan FloatKind.f64 (fadd FloatKind.f64 (fmul FloatKind.f64 (widen x) 4643176031446892544) 4602678819172646912))
          ((match f2i FloatKind.f64 (fwhole Ieee.Toward.down (fadd FloatKind.f64 (fmul FloatKind.f64 (widen x) 4643176031446892544) 4602678819172646912)) IntKind.i64 with
            | some n0 => K (.int .i64 (n0)) []
            | none => K .undef []))
          (False)))) := by kernel_rfl
noncomputable def s_impl_ByteOf : Sm := semT [.cell tF] fun x => match x with | (x, _) => .int .i64 (byteN x)
theorem ok_impl_ByteOf : FnOk Tryd.prog 7 s_impl_ByteOf := fnOk_typed (fnOk_runC (C := c_impl_ByteOf) rfl mixed (.cons ok_impl_isNaN (.cons ok_math_Floor .nil)) .nil .nil Tryd.func7 (by kernel_rfl)) fun (x : ((Nat) × Unit)) wf K h => by
  obtain ⟨x, ⟨⟩⟩ := x
  replace h : K (.int .i64 (byteN x)) [] := h
  rw [w_impl_ByteOf x K]
  unfold byteN at h
  cases e1 : nan .f32 x <;> rw [e1] at h
  · cases e2 : flt .f32 x 0 <;> rw [e2] at h
    · cases e3 : fgt .f32 x 1065353216 <;> rw [e3] at h
      · obtain ⟨n1, n, hn, e⟩ := shade_nan x e1 wf.1.1 e2 e3
        rw [n1]
        unfold shadeN at e
        rw [e]
        unfold shadeN at h
        rw [e] at h
        exact h
      · exact h
    · exact h
  · exact h

def difs (a b : Str) (i : Nat) : Nat := (((a.zip b).take i).filter fun p => p.1 != p.2).length
--B difN List UInt8 → List UInt8 → Int
def difN (a b : Str) : Int := ((a.zip b).filter fun p => p.1 != p.2).length
/-! impl.CountDifferent -/
noncomputable def a_impl_CountDifferent : Nat → Option Ann := fun n => bif Nat.beq n 5 then some ⟨[0,1,6,19,20],0,false⟩ else none
noncomputable def c_impl_CountDifferent : Ctx := mkC Tryd.prog tyT [] [] [] 34 a_impl_CountDifferent 0
noncomputable def fr_impl_CountDifferent_5 (sa sb : Str) (many len i : Int) : Fr := [(0, .str sa), (1, .str sb), (6, .int .i64 many), (19, .int .i64 len), (20, .int .i64 i)]
theorem r_impl_CountDifferent_5 (sa sb : Str) (many len i : Int) (Kn : Fr → Heap → Prop) (K : V → Heap → Prop) : round c_impl_CountDifferent ⟨[0,1,6,19,20],0,false⟩ (lb c_impl_CountDifferent 5 Tryd.f10) (fr_impl_CountDifferent_5 sa sb many len i) [] Kn (lk c_impl_CountDifferent 5 Tryd.f10 [] K) =
  cond (decide (i < len))
    (cond (decide (0 ≤ i))
      ((match sa[Int.toNat i]? with
        | some b0 => cond (decide (0 ≤ i))
          ((match sb[Int.toNat i]? with
            | some b1 => cond ((↑(UInt8.toNat b0) : Int) != (↑(UInt8.toNat b1) : Int))
              (Kn [(0, (.str (sa))), (1, (.str (sb))), (6, (.int .i64 (IntKind.wrap IntKind.i64 (many + 1)))), (19, (.int .i64 (len))), (20, (.int .i64 (IntKind.wrap IntKind.i64 (i + 1))))] [])
              (Kn [(0, (.str (sa))), (1, (.str (sb))), (6, (.int .i64 (many))), (19, (.int .i64 (len))), (20, (.int .i64 (IntKind.wrap IntKind.i64 (i + 1))))] [])
            | none => False))
          (False)
        | none => False))
      (False))
    (K (.tuple [(.int .i64 (many)), (.bool true)]) []) := by kernel_rfl
theorem w_impl_CountDifferent (sa sb : Str) (K : V → Heap → Prop) : wpFn c_impl_CountDifferent Tryd.f10 (encAs [.cell .str, .cell .str] (sa, sb, ())) [] K =
  cond ((↑(List.length sa) : Int) != (↑(List.length sb) : Int))
    (K (.tuple [(.int .i64 0), (.bool false)]) [])
    (cond (decide ((↑(List.length sa) : Int) > 144))
      (K (.tuple [(.int .i64 0), (.bool false)]) [])
      (LoopE c_impl_CountDifferent ⟨[0, 1, 6, 19, 20], 0, false⟩ (lb c_impl_CountDifferent 5 Tryd.f10) [(0, (.str (sa))), (1, (.str (sb))), (6, (.int .i64 0)), (19, (.int .i64 ((↑(List.length sa) : Int)))), (20, (.int .i64 0))] [] (lk c_impl_CountDifferent 5 Tryd.f10 [] K))) := by kernel_rfl
noncomputable def s_impl_CountDifferent : Sm := semT [.cell .str, .cell .str] fun x => match x with | (sa, sb, _) => .tuple [.int .i64 (bif decide (sa.length = sb.length) && decide (sa.length ≤ 144) then difN sa sb else 0), .bool (decide (sa.length = sb.length) && decide (sa.length ≤ 144))]
theorem ok_impl_CountDifferent : FnOk Tryd.prog 10 s_impl_CountDifferent := fnOk_typed (fnOk_runC (C := c_impl_CountDifferent) rfl mixed .nil .nil .nil Tryd.func10 (by kernel_rfl)) fun (x : ((Str) × (Str) × Unit)) wf K h => by
  obtain ⟨sa, sb, ⟨⟩⟩ := x
  replace h : K (.tuple [.int .i64 (bif decide (sa.length = sb.length) && decide (sa.length ≤ 144) then difN sa sb else 0), .bool (decide (sa.length = sb.length) && decide (sa.length ≤ 144))]) [] := h
  rw [w_impl_CountDifferent sa sb K]
  rw [show (((sa.length : Nat) : Int) != ((sb.length : Nat) : Int)) = !decide (sa.length = sb.length) by
    rw [bne_cast]
    by_cases e : sa.length = sb.length
    · rw [d_t e, e, bne_self_eq_false]; rfl
    · rw [d_f e, bne_iff_ne.2 e]; rfl]
  rw [show decide (((sa.length : Nat) : Int) > 144) = !decide (sa.length ≤ 144) by
    rw [← decide_not]; exact decide_eq_decide.2 (by omega)]
  by_cases e1 : sa.length = sb.length
  · by_cases e2 : sa.length ≤ 144
    · rw [d_t e1, d_t e2] at h ⊢
      have hz : (sa.zip sb).length = sa.length := by rw [List.length_zip]; omega
      refine loop_run (σ := Nat) (fun i => fr_impl_CountDifferent_5 sa sb (difs sa sb i : Nat) sa.length i) (fun i => []) (fun i => i ≤ sa.length) (fun i => sa.length - i) ?_ 0 (Nat.zero_le _)
      intro i hi Kn hk
      rw [r_impl_CountDifferent_5 sa sb (difs sa sb i : Nat) sa.length i Kn K]
      by_cases hlt : i < sa.length
      · have next := hk (i + 1) hlt (by omega)
        have hd : difs sa sb (i + 1) = difs sa sb i + (bif (sa[i]'hlt != sb[i]'(by omega)) then 1 else 0) := by
          unfold difs
          rw [take_one (show i < (sa.zip sb).length by omega), List.filter_append, List.length_append, List.getElem_zip]
          congr 1
          cases e : (sa[i]'hlt != sb[i]'(by omega)) <;> simp [List.filter_cons, e]
        have hb : difs sa sb i ≤ i := by
          unfold difs
          exact Nat.le_trans (List.length_filter_le _ _) (by rw [List.length_take]; omega)
        rw [hd] at next
        simp only [d_lt hlt, d_0, cond_true, Int.toNat_natCast, get_lt hlt, get_lt (show i < sb.length by omega)]
        rw [i64_of (n := (i : Int) + 1) (by omega) (by omega), i64_of (n := ((difs sa sb i : Nat) : Int) + 1) (by omega) (by omega)]
        rw [show ((((sa[i]'hlt).toNat : Nat) : Int) != (((sb[i]'(by omega)).toNat : Nat) : Int)) = (sa[i]'hlt != sb[i]'(by omega)) by
          rw [bne_cast]
          by_cases e : sa[i]'hlt = sb[i]'(by omega)
          · rw [e, bne_self_eq_false, bne_self_eq_false]
          · rw [bne_iff_ne.2 e, bne_iff_ne.2 fun e' => e (UInt8.toNat_inj.1 e')]]
        cases e : (sa[i]'hlt != sb[i]'(by omega)) <;> rw [e] at next <;> exact next
      · have : i = sa.length := by omega
        subst this
        simp only [d_nlt hlt, cond_false]
        rw [show ((difs sa sb sa.length : Nat) : Int) = difN sa sb by unfold difs difN; rw [← hz, List.take_length]]
        exact h
    · rw [d_t e1, d_f e2] at h ⊢
      exact h
  · rw [d_f e1] at h ⊢
    exact h

theorem difN_comm (a b : Str) : difN a b = difN b a := by
  have key : ∀ (a b : Str), ((a.zip b).filter fun p => p.1 != p.2).length = ((b.zip a).filter fun p => p.1 != p.2).length := by
    intro a
    induction a with
    | nil => intro b; cases b <;> rfl
    | cons x a ih =>
      intro b
      cases b with
      | nil => rfl
      | cons y b =>
        have e : (x != y) = (y != x) := bne_comm
        simp only [List.zip_cons_cons, List.filter_cons, e]
        cases y != x
        · exact ih b
        · simp only [if_true, List.length_cons, ih b]
  unfold difN
  rw [key]
theorem difN_zero (a b : Str) (h : a.length = b.length) : (difN a b == 0) = bytesEq a b := by
  have key : ∀ (a b : Str), a.length = b.length → (((a.zip b).filter fun p => p.1 != p.2).length = 0 ↔ a = b) := by
    intro a
    induction a with
    | nil =>
      intro b h
      have : b = [] := List.length_eq_zero_iff.1 h.symm
      subst this
      simp
    | cons x a ih =>
      intro b h
      cases b with
      | nil => simp at h
      | cons y b =>
        have h' : a.length = b.length := by simpa using h
        simp only [List.zip_cons_cons, List.filter_cons]
        by_cases e : x = y
        · subst e
          simp only [bne_self_eq_false, Bool.false_eq_true, if_false, List.cons.injEq, true_and]
          exact ih b h'
        · rw [bne_iff_ne.2 e]
          simp [e]
  have k := key a b h
  unfold difN bytesEq
  by_cases e : a = b
  · rw [k.2 e, e, beq_self_eq_true]; rfl
  · rw [beq_eq_false_iff_ne.2 e, beq_eq_false_iff_ne.2 fun c => e (k.1 (by omega))]
theorem ten_digits {n : Int} (h : 0 ≤ n ∧ n < 100) : (itoaL (n + 100)).length = 3 := by
  obtain ⟨m, rfl⟩ : ∃ m : Nat, n = m := ⟨n.toNat, by omega⟩
  have e : itoaL (((m + 100 : Nat) : Int)) = Lib.decDigits (m + 100) := Lib.itoa_nonneg (m + 100)
  rw [show (m : Int) + 100 = ((m + 100 : Nat) : Int) by omega, e]
  have ge : ∀ {k : Nat}, ¬ k < 10 → Lib.decDigits k = Lib.decDigits (k / 10) ++ [UInt8.ofNat (48 + k % 10)] := fun h => by rw [Lib.decDigits, dif_neg h]
  have lt : ∀ {k : Nat}, k < 10 → Lib.decDigits k = [UInt8.ofNat (48 + k)] := fun h => by rw [Lib.decDigits, dif_pos h]
  rw [ge (by omega), ge (by omega), lt (by omega)]
  rfl
def shadeA (k : Int) : Nat := fdiv .f32 (FloatKind.f32.nearest k) 1132396544
theorem shade_tab : ∀ k : Fin 256, byteN (shadeA (k : Int)) = (k : Int) := by decide +kernel
theorem shade_A {k : Int} (h : 0 ≤ k ∧ k < 256) : byteN (shadeA k) = k := by
  have := shade_tab ⟨k.toNat, by omega⟩
  have e : (((⟨k.toNat, by omega⟩ : Fin 256) : Nat) : Int) = k := by show ((k.toNat : Nat) : Int) = k; omega
  rwa [e] at this
theorem byteN_0 : byteN 0 = 0 := by decide +kernel
theorem byteN_n0 : byteN 2147483648 = 0 := by decide +kernel
theorem byteN_1 : byteN 1065353216 = 255 := by decide +kernel
theorem shade_le {k j : Int} (hk : 0 ≤ k ∧ k < 256) (hj : 0 ≤ j ∧ j < 256) (h : fle .f32 (shadeA k) (shadeA j) = true) : k ≤ j := by
  refine Decidable.byContradiction fun c => ?_
  have E : Ex .f32 1132396544 255 := (ex_int32 (n := 255) (by decide) |> fun e => (show FloatKind.f32.nearest 255 = 1132396544 by decide +kernel) ▸ e)
  have Rk := (ex_int32 (n := k) (by omega)).rdiv E (by decide)
  have Rj := (ex_int32 (n := j) (by omega)).rdiv E (by decide)
  have hk' := shade_A hk
  have hj' := shade_A hj
  unfold shadeA at h hk' hj'
  rw [fle_ev Rk.nan Rj.nan] at h
  have h := of_decide_eq_true h
  have hc : (j : Rat) < (k : Rat) := Rat.intCast_lt_intCast.2 (by omega)
  have m := Rj.mono Rk (by
    rw [Rat.div_def, Rat.div_def]
    exact Rat.mul_le_mul_of_nonneg_right (Rat.le_of_lt hc) (Rat.le_of_lt (Rat.inv_pos.2 (by decide))))
  have e := Rat.le_antisymm h m
  by_cases z : ev .f32 (fdiv .f32 (FloatKind.f32.nearest k) 1132396544) = 0
  · rcases (ev_zero Rk.lt2).1 z with z | z
    · rw [z, byteN_0] at hk'; omega
    · rw [show fdiv .f32 (FloatKind.f32.nearest k) 1132396544 = 2147483648 from z, byteN_n0] at hk'; omega
  · have := ev_inj Rk.lt2 Rj.lt2 e z
    rw [this, hj'] at hk'
    omega

/-! laws.FnBytes -/
noncomputable def c_laws_FnBytes : Ctx := mkC Tryd.prog tyT [(5, s_laws_b10Long), (6, s_laws_b10At), (7, s_impl_ByteOf), (8, s_spec_B10Number), (9, s_impl_Decimal), (10, s_impl_CountDifferent)] [] [] 119 (fun _ => none) 0
theorem w_laws_FnBytes (xs ys : List Int) (K : V → Heap → Prop) : wpFn c_laws_FnBytes Tryd.f3 (encAs [.cell tB, .cell tB] (xs, ys, ())) [] K =
  cond (decide (1048576 < List.length xs) || decide (1048576 < List.length ys))
    (K (.bool true) [])
    (cond (fle FloatKind.f32 (fdiv FloatKind.f32 (FloatKind.nearest FloatKind.f32 (bAtV xs 0 256)) 1132396544) (fdiv FloatKind.f32 (FloatKind.nearest FloatKind.f32 (bAtV xs 1 256)) 1132396544))
      (cond (decide (byteN (fdiv FloatKind.f32 (FloatKind.nearest FloatKind.f32 (bAtV xs 0 256)) 1132396544) > byteN (fdiv FloatKind.f32 (FloatKind.nearest FloatKind.f32 (bAtV xs 1 256)) 1132396544)))
        (K (.bool false) [])
        (cond (fle FloatKind.f32 (fdiv FloatKind.f32 (FloatKind.nearest FloatKind.f32 (bAtV xs 1 256)) 1132396544) (fdiv FloatKind.f32 (FloatKind.nearest FloatKind.f32 (bAtV xs 0 256)) 1132396544))
          (cond (decide (byteN (fdiv FloatKind.f32 (FloatKind.nearest FloatKind.f32 (bAtV xs 1 256)) 1132396544) > byteN (fdiv FloatKind.f32 (FloatKind.nearest FloatKind.f32 (bAtV xs 0 256)) 1132396544)))
            (K (.bool false) [])
            (cond (decide (byteN (fdiv FloatKind.f32 (FloatKind.nearest FloatKind.f32 (bAtV xs 0 256)) 1132396544) < 0))
              (K (.bool false) [])
              (cond (decide (byteN (fdiv FloatKind.f32 (FloatKind.nearest FloatKind.f32 (bAtV xs 0 256)) 1132396544) > 255))
                (K (.bool false) [])
                (cond (decide (byteN (numV ys) < 0))
                  (K (.bool false) [])
                  (cond (decide (byteN (numV ys) > 255))
                    (K (.bool false) [])
                    (cond (byteN 0 != 0)
                      (K (.bool false) [])
                      (cond (byteN 1065353216 != 255)
                        (K (.bool false) [])
                        (cond (byteN (fdiv FloatKind.f32 (FloatKind.nearest FloatKind.f32 (bAtV xs 0 256)) 1132396544) != bAtV xs 0 256)
                          (K (.bool false) [])
                          (cond (decide (List.length (itoaL (IntKind.wrap IntKind.i64 (bAtV ys 0 100 + 100))) = List.length (itoaL (IntKind.wrap IntKind.i64 (bAtV ys 1 100 + 100)))) && decide (List.length (itoaL (IntKind.wrap IntKind.i64 (bAtV ys 0 100 + 100))) ≤ 144))
                            (cond (decide (List.length (itoaL (IntKind.wrap IntKind.i64 (bAtV ys 1 100 + 100))) = List.length (itoaL (IntKind.wrap IntKind.i64 (bAtV ys 0 100 + 100)))) && decide (List.length (itoaL (IntKind.wrap IntKind.i64 (bAtV ys 1 100 + 100))) ≤ 144))
                              (cond ((bif decide (List.length (itoaL (IntKind.wrap IntKind.i64 (bAtV ys 0 100 + 100))) = List.length (itoaL (IntKind.wrap IntKind.i64 (bAtV ys 1 100 + 100)))) && decide (List.length (itoaL (IntKind.wrap IntKind.i64 (bAtV ys 0 100 + 100))) ≤ 144) then difN (itoaL (IntKind.wrap IntKind.i64 (bAtV ys 0 100 + 100))) (itoaL (IntKind.wrap IntKind.i64 (bAtV ys 1 100 + 100))) else 0) == bif decide (List.length (itoaL (IntKind.wrap IntKind.i64 (bAtV ys 1 100 + 100))) = List.length (itoaL (IntKind.wrap IntKind.i64 (bAtV ys 0 100 + 100)))) && decide (List.length (itoaL (IntKind.wrap IntKind.i64 (bAtV ys 1 100 + 100))) ≤ 144) then difN (itoaL (IntKind.wrap IntKind.i64 (bAtV ys 1 100 + 100))) (itoaL (IntKind.wrap IntKind.i64 (bAtV ys 0 100 + 100))) else 0)
                                (K (.bool (((bif decide (List.length (itoaL (IntKind.wrap IntKind.i64 (bAtV ys 0 100 + 100))) = List.length (itoaL (IntKind.wrap IntKind.i64 (bAtV ys 1 100 + 100)))) && decide (List.length (itoaL (IntKind.wrap IntKind.i64 (bAtV ys 0 100 + 100))) ≤ 144) then difN (itoaL (IntKind.wrap IntKind.i64 (bAtV ys 0 100 + 100))) (itoaL (IntKind.wrap IntKind.i64 (bAtV ys 1 100 + 100))) else 0) == 0) == bytesEq (itoaL (IntKind.wrap IntKind.i64 (bAtV ys 0 100 + 100))) (itoaL (IntKind.wrap IntKind.i64 (bAtV ys 1 100 + 100))))) [])
                                (K (.bool false) []))
                              (K (.bool false) []))
                            (K (.bool false) []))))))))))
          (cond (decide (byteN (fdiv FloatKind.f32 (FloatKind.nearest FloatKind.f32 (bAtV xs 0 256)) 1132396544) < 0))
            (K (.bool false) [])
            (cond (decide (byteN (fdiv FloatKind.f32 (FloatKind.nearest FloatKind.f32 (bAtV xs 0 256)) 1132396544) > 255))
              (K (.bool false) [])
              (cond (decide (byteN (numV ys) < 0))
                (K (.bool false) [])
                (cond (decide (byteN (numV ys) > 255))
                  (K (.bool false) [])
                  (cond (byteN 0 != 0)
                    (K (.bool false) [])
                    (cond (byteN 1065353216 != 255)
                      (K (.bool false) [])
                      (cond (byteN (fdiv FloatKind.f32 (FloatKind.nearest FloatKind.f32 (bAtV xs 0 256)) 1132396544) != bAtV xs 0 256)
                        (K (.bool false) [])
                        (cond (decide (List.length (itoaL (IntKind.wrap IntKind.i64 (bAtV ys 0 100 + 100))) = List.length (itoaL (IntKind.wrap IntKind.i64 (bAtV ys 1 100 + 100)))) && decide (List.length (itoaL (IntKind.wrap IntKind.i64 (bAtV ys 0 100 + 100))) ≤ 144))
                          (cond (decide (List.length (itoaL (IntKind.wrap IntKind.i64 (bAtV ys 1 100 + 100))) = List.length (itoaL (IntKind.wrap IntKind.i64 (bAtV ys 0 100 + 100)))) && decide (List.length (itoaL (IntKind.wrap IntKind.i64 (bAtV ys 1 100 + 100))) ≤ 144))
                            (cond ((bif decide (List.length (itoaL (IntKind.wrap IntKind.i64 (bAtV ys 0 100 + 100))) = List.length (itoaL (IntKind.wrap IntKind.i64 (bAtV ys 1 100 + 100)))) && decide (List.length (itoaL (IntKind.wrap IntKind.i64 (bAtV ys 0 100 + 100))) ≤ 144) then difN (itoaL (IntKind.wrap IntKind.i64 (bAtV ys 0 100 + 100))) (itoaL (IntKind.wrap IntKind.i64 (bAtV ys 1 100 + 100))) else 0) == bif decide (List.length (itoaL (IntKind.wrap IntKind.i64 (bAtV ys 1 100 + 100))) = List.length (itoaL (IntKind.wrap IntKind.i64 (bAtV ys 0 100 + 100)))) && decide (List.length (itoaL (IntKind.wrap IntKind.i64 (bAtV ys 1 100 + 100))) ≤ 144) then difN (itoaL (IntKind.wrap IntKind.i64 (bAtV ys 1 100 + 100))) (itoaL (IntKind.wrap IntKind.i64 (bAtV ys 0 100 + 100))) else 0)
                              (K (.bool (((bif decide (List.length (itoaL (IntKind.wrap IntKind.i64 (bAtV ys 0 100 + 100))) = List.length (itoaL (IntKind.wrap IntKind.i64 (bAtV ys 1 100 + 100)))) && decide (List.length (itoaL (IntKind.wrap IntKind.i64 (bAtV ys 0 100 + 100))) ≤ 144) then difN (itoaL (IntKind.wrap IntKind.i64 (bAtV ys 0 100 + 100))) (itoaL (IntKind.wrap IntKind.i64 (bAtV ys 1 100 + 100))) else 0) == 0) == bytesEq (itoaL (IntKind.wrap IntKind.i64 (bAtV ys 0 100 + 100))) (itoaL (IntKind.wrap IntKind.i64 (bAtV ys 1 100 + 100))))) [])
                              (K (.bool false) []))
                            (K (.bool false) []))
                          (K (.bool false) [])))))))))))
      (cond (fle FloatKind.f32 (fdiv FloatKind.f32 (FloatKind.nearest FloatKind.f32 (bAtV xs 1 256)) 1132396544) (fdiv FloatKind.f32 (FloatKind.nearest FloatKind.f32 (bAtV xs 0 256)) 1132396544))
        (cond (decide (byteN (fdiv FloatKind.f32 (FloatKind.nearest FloatKind.f32 (bAtV xs 1 256)) 1132396544) > byteN (fdiv FloatKind.f32 (FloatKind.nearest FloatKind.f32 (bAtV xs 0 256)) 1132396544)))
          (K (.bool false) [])
          (cond (decide (byteN (fdiv FloatKind.f32 (FloatKind.nearest FloatKind.f32 (bAtV xs 0 256)) 1132396544) < 0))
            (K (.bool false) [])
            (cond (decide (byteN (fdiv FloatKind.f32 (FloatKind.nearest FloatKind.f32 (bAtV xs 0 256)) 1132396544) > 255))
              (K (.bool false) [])
              (cond (decide (byteN (numV ys) < 0))
                (K (.bool false) [])
                (cond (decide (byteN (numV ys) > 255))
                  (K (.bool false) [])
                  (cond (byteN 0 != 0)
                    (K (.bool false) [])
                    (cond (byteN 1065353216 != 255)
                      (K (.bool false) [])
                      (cond (byteN (fdiv FloatKind.f32 (FloatKind.nearest FloatKind.f32 (bAtV xs 0 256)) 1132396544) != bAtV xs 0 256)
                        (K (.bool false) [])
                        (cond (decide (List.length (itoaL (IntKind.wrap IntKind.i64 (bAtV ys 0 100 + 100))) = List.length (itoaL (IntKind.wrap IntKind.i64 (bAtV ys 1 100 + 100)))) && decide (List.length (itoaL (IntKind.wrap IntKind.i64 (bAtV ys 0 100 + 100))) ≤ 144))
                          (cond (decide (List.length (itoaL (IntKind.wrap IntKind.i64 (bAtV ys 1 100 + 100))) = List.length (itoaL (IntKind.wrap IntKind.i64 (bAtV ys 0 100 + 100)))) && decide (List.length (itoaL (IntKind.wrap IntKind.i64 (bAtV ys 1 100 + 100))) ≤ 144))
                            (cond ((bif decide (List.length (itoaL (IntKind.wrap IntKind.i64 (bAtV ys 0 100 + 100))) = List.length (itoaL (IntKind.wrap IntKind.i64 (bAtV ys 1 100 + 100)))) && decide (List.length (itoaL (IntKind.wrap IntKind.i64 (bAtV ys 0 100 + 100))) ≤ 144) then difN (itoaL (IntKind.wrap IntKind.i64 (bAtV ys 0 100 + 100))) (itoaL (IntKind.wrap IntKind.i64 (bAtV ys 1 100 + 100))) else 0) == bif decide (List.length (itoaL (IntKind.wrap IntKind.i64 (bAtV ys 1 100 + 100))) = List.length (itoaL (IntKind.wrap IntKind.i64 (bAtV ys 0 100 + 100)))) && decide (List.length (itoaL (IntKind.wrap IntKind.i64 (bAtV ys 1 100 + 100))) ≤ 144) then difN (itoaL (IntKind.wrap IntKind.i64 (bAtV ys 1 100 + 100))) (itoaL (IntKind.wrap IntKind.i64 (bAtV ys 0 100 + 100))) else 0)
                              (K (.bool (((bif decide (List.length (itoaL (IntKind.wrap IntKind.i64 (bAtV ys 0 100 + 100))) = List.length (itoaL (IntKind.wrap IntKind.i64 (bAtV ys 1 100 + 100)))) && decide (List.length (itoaL (IntKind.wrap IntKind.i64 (bAtV ys 0 100 + 100))) ≤ 144) then difN (itoaL (IntKind.wrap IntKind.i64 (bAtV ys 0 100 + 100))) (itoaL (IntKind.wrap IntKind.i64 (bAtV ys 1 100 + 100))) else 0) == 0) == bytesEq (itoaL (IntKind.wrap IntKind.i64 (bAtV ys 0 100 + 100))) (itoaL (IntKind.wrap IntKind.i64 (bAtV ys 1 100 + 100))))) [])
                              (K (.bool false) []))
                            (K (.bool false) []))
                          (K (.bool false) []))))))))))
        (cond (decide (byteN (fdiv FloatKind.f32 (FloatKind.nearest FloatKind.f32 (bAtV xs 0 256)) 1132396544) < 0))
          (K (.bool false) [])
          (cond (decide (byteN (fdiv FloatKind.f32 (FloatKind.nearest FloatKind.f32 (bAtV xs 0 256)) 1132396544) > 255))
            (K (.bool false) [])
            (cond (decide (byteN (numV ys) < 0))
              (K (.bool false) [])
              (cond (decide (byteN (numV ys) > 255))
                (K (.bool false) [])
                (cond (byteN 0 != 0)
                  (K (.bool false) [])
                  (cond (byteN 1065353216 != 255)
                    (K (.bool false) [])
                    (cond (byteN (fdiv FloatKind.f32 (FloatKind.nearest FloatKind.f32 (bAtV xs 0 256)) 1132396544) != bAtV xs 0 256)
                      (K (.bool false) [])
                      (cond (decide (List.length (itoaL (IntKind.wrap IntKind.i64 (bAtV ys 0 100 + 100))) = List.length (itoaL (IntKind.wrap IntKind.i64 (bAtV ys 1 100 + 100)))) && decide (List.length (itoaL (IntKind.wrap IntKind.i64 (bAtV ys 0 100 + 100))) ≤ 144))
                        (cond (decide (List.length (itoaL (IntKind.wrap IntKind.i64 (bAtV ys 1 100 + 100))) = List.length (itoaL (IntKind.wrap IntKind.i64 (bAtV ys 0 100 + 100)))) && decide (List.length (itoaL (IntKind.wrap IntKind.i64 (bAtV ys 1 100 + 100))) ≤ 144))
                          (cond ((bif decide (List.length (itoaL (IntKind.wrap IntKind.i64 (bAtV ys 0 100 + 100))) = List.length (itoaL (IntKind.wrap IntKind.i64 (bAtV ys 1 100 + 100)))) && decide (List.length (itoaL (IntKind.wrap IntKind.i64 (bAtV ys 0 100 + 100))) ≤ 144) then difN (itoaL (IntKind.wrap IntKind.i64 (bAtV ys 0 100 + 100))) (itoaL (IntKind.wrap IntKind.i64 (bAtV ys 1 100 + 100))) else 0) == bif decide (List.length (itoaL (IntKind.wrap IntKind.i64 (bAtV ys 1 100 + 100))) = List.length (itoaL (IntKind.wrap IntKind.i64 (bAtV ys 0 100 + 100)))) && decide (List.length (itoaL (IntKind.wrap IntKind.i64 (bAtV ys 1 100 + 100))) ≤ 144) then difN (itoaL (IntKind.wrap IntKind.i64 (bAtV ys 1 100 + 100))) (itoaL (IntKind.wrap IntKind.i64 (bAtV ys 0 100 + 100))) else 0)
                            (K (.bool (((bif decide (List.length (itoaL (IntKind.wrap IntKind.i64 (bAtV ys 0 100 + 100))) = List.length (itoaL (IntKind.wrap IntKind.i64 (bAtV ys 1 100 + 100)))) && decide (List.length (itoaL (IntKind.wrap IntKind.i64 (bAtV ys 0 100 + 100))) ≤ 144) then difN (itoaL (IntKind.wrap IntKind.i64 (bAtV ys 0 100 + 100))) (itoaL (IntKind.wrap IntKind.i64 (bAtV ys 1 100 + 100))) else 0) == 0) == bytesEq (itoaL (IntKind.wrap IntKind.i64 (bAtV ys 0 100 + 100))) (itoaL (IntKind.wrap IntKind.i64 (bAtV ys 1 100 + 100))))) [])
                            (K (.bool false) []))
                          (K (.bool false) []))
                        (K (.bool false) []))))))))))) := by kernel_rfl
noncomputable def s_laws_FnBytes : Sm := semT [.cell tB, .cell tB] fun x => match x with | (xs, ys, _) => .bool true
theorem ok_laws_FnBytes : FnOk Tryd.prog 3 s_laws_FnBytes := fnOk_typed (fnOk_runC (C := c_laws_FnBytes) rfl mixed (.cons ok_laws_b10Long (.cons ok_laws_b10At (.cons ok_impl_ByteOf (.cons ok_spec_B10Number (.cons ok_impl_Decimal (.cons ok_impl_CountDifferent .nil)))))) .nil .nil Tryd.func3 (by kernel_rfl)) fun (x : ((List Int) × (List Int) × Unit)) wf K h => by
  obtain ⟨xs, ys, ⟨⟩⟩ := x
  replace h : K (.bool true) [] := h
  rw [w_laws_FnBytes xs ys K]
  cases e0 : decide (1048576 < xs.length) || decide (1048576 < ys.length) with
  | true => exact h
  | false =>
    simp only [cond_false]
    have hbx : bytes xs := bytes_of wf.1
    have hby : bytes ys := bytes_of wf.2.1
    have r0 := bAt_range hbx (i := 0) (n := 256) (by omega) (by omega)
    have r1 := bAt_range hbx (i := 1) (n := 256) (by omega) (by omega)
    have s0 := bAt_range hby (i := 0) (n := 100) (by omega) (by omega)
    have s1 := bAt_range hby (i := 1) (n := 100) (by omega) (by omega)
    have hz := byteN_range (numV ys) (wd_num ys).1
    generalize numV ys = z at *
    generalize bAtV xs 0 256 = k at *
    generalize bAtV xs 1 256 = j at *
    generalize bAtV ys 0 100 = p at *
    generalize bAtV ys 1 100 = q at *
    have A1 := shade_A r0
    have A2 := shade_A r1
    have L1 := shade_le r0 r1
    have L2 := shade_le r1 r0
    unfold shadeA at A1 A2 L1 L2
    rw [i64_of (n := p + 100) (by omega) (by omega), i64_of (n := q + 100) (by omega) (by omega)]
    have t1 := ten_digits s0
    have t2 := ten_digits s1
    have e3 := difN_comm (itoaL (q + 100)) (itoaL (p + 100))
    have e4 := difN_zero (itoaL (p + 100)) (itoaL (q + 100)) (by rw [t1, t2])
    simp only [t1, t2, decide_true, show decide (3 ≤ 144) = true from rfl, Bool.and_self, cond_true, e3, beq_self_eq_true, A1, A2, byteN_0, byteN_1, bne_self_eq_false, cond_false, d_f (show ¬ k < 0 by omega), d_f (show ¬ k > 255 by omega), d_f (show ¬ byteN z < 0 by omega), d_f (show ¬ byteN z > 255 by omega), e4]
    cases f1 : fle .f32 (fdiv .f32 (FloatKind.f32.nearest k) 1132396544) (fdiv .f32 (FloatKind.f32.nearest j) 1132396544) with
    | true =>
      rw [d_f (show ¬ k > j by have := L1 f1; omega)]
      cases f2 : fle .f32 (fdiv .f32 (FloatKind.f32.nearest j) 1132396544) (fdiv .f32 (FloatKind.f32.nearest k) 1132396544) with
      | true =>
        rw [d_f (show ¬ j > k by have := L2 f2; omega)]
        exact h
      | false => exact h
    | false =>
      cases f2 : fle .f32 (fdiv .f32 (FloatKind.f32.nearest j) 1132396544) (fdiv .f32 (FloatKind.f32.nearest k) 1132396544) with
      | true =>
        rw [d_f (show ¬ j > k by have := L2 f2; omega)]
        exact h
      | false => exact h

end Go.Proofs.YtkdkcdkjfiabfaaDoor
