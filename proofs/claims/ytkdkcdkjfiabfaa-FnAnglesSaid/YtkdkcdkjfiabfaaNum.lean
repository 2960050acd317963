/- Numbers that the laws draw, and the functions of single numbers. -/
import Derived.Test.YtkdkcdkjfiabfaaSrc
import Derived.Test.YtkdkcdkjfiabfaaFlG
set_option linter.unusedVariables false
set_option linter.unusedSimpArgs false
set_option maxRecDepth 100000
namespace Go.Proofs.Ytkdkcdkjfiabfaa
open Go.Ev Go.Ev.Fl

theorem srcIn_mono {L M : Nat} {s : SrcD} (h : srcIn L s = true) (hl : L ≤ M) : srcIn M s = true := by
  rw [srcIn_iff] at h ⊢
  omega
theorem srcIn_pick {L : Nat} {s : SrcD} (n : Int) (h : srcIn L s = true) : srcIn (L + 1) (pickS s n) = true := by
  have := pickS_at s n
  rw [srcIn_iff] at h ⊢
  omega

--B fromV Int → Nat
def fromV (n : Int) : Nat := canon .f32 (IntKind.u32.wrap n).toNat
--B plainV SrcD → Nat
def plainV (s : SrcD) : Nat := fdiv .f32 (FloatKind.f32.nearest (pickV s 129 - 64)) (bif pickV (pickS s 129) 4 == 0 then 1088421888 else 1098907648)
--B plainS SrcD → SrcD
def plainS (s : SrcD) : SrcD := pickS (pickS s 129) 4
def listA : List Int := [0, 2147483648, 2139095040, 4286578688, 2143289344, 1, 2139095039, 8388608, 8388607, 2147483649]
def listB : List Int := [8388608, 2130706432, 1610612736, 536870912]
--B floatV SrcD → Nat
def floatV (s : SrcD) : Nat :=
  bif !(pickV s 12 == 0) then plainV (pickS s 12) else
  bif pickV (pickS s 12) 4 == 0 then fromV ((listA[(pickV (pickS (pickS s 12) 4) 10).toNat]?).getD 0) else
  bif pickV (pickS s 12) 4 == 1 then fromV (pickV (pickS (pickS s 12) 4) 65536 * 65536 + pickV (pickS (pickS (pickS s 12) 4) 65536) 65536) else
  bif pickV (pickS s 12) 4 == 2 then fromV (pickV (pickS (pickS s 12) 4) 65536 * 65536) else
  fmul .f32 (plainV (pickS (pickS s 12) 4)) (fromV ((listB[(pickV (plainS (pickS (pickS s 12) 4)) 4).toNat]?).getD 0))
--B floatS SrcD → SrcD
def floatS (s : SrcD) : SrcD :=
  bif !(pickV s 12 == 0) then plainS (pickS s 12) else
  bif pickV (pickS s 12) 4 == 0 then pickS (pickS (pickS s 12) 4) 10 else
  bif pickV (pickS s 12) 4 == 1 then pickS (pickS (pickS (pickS s 12) 4) 65536) 65536 else
  bif pickV (pickS s 12) 4 == 2 then pickS (pickS (pickS s 12) 4) 65536 else
  pickS (plainS (pickS (pickS s 12) 4)) 4
--B numV List Int → Nat
def numV (xs : List Int) : Nat :=
  bif pickV (xs, 0, 0) 2 == 0 then fromV (pickV (pickS (xs, 0, 0) 2) 65536 * 65536 + pickV (pickS (pickS (xs, 0, 0) 2) 65536) 65536) else floatV (pickS (xs, 0, 0) 2)

/-! words of numbers -/
def Wd (x : Nat) : Prop := x < 2 * signOf .f32 ∧ canon .f32 x = x
theorem wd_from (n : Int) : Wd (fromV n) := by
  unfold fromV
  refine ⟨canon_lt ?_, canon_canon _ _⟩
  have : 2 * signOf .f32 = 4294967296 := rfl
  rw [IntKind.wrap_u32]
  omega
theorem wd_orNan {o : Option Nat} (h : ∀ r, o = some r → r < 2 * signOf .f32 ∧ nan .f32 r = false) : Wd (orNan .f32 o) := by
  cases o with
  | none => exact ⟨qnan_lt .f32, canon_nan (nan_qnan .f32)⟩
  | some r => exact ⟨(h r rfl).1, canon_not (h r rfl).2⟩
theorem wd_div (x y : Nat) : Wd (fdiv .f32 x y) := wd_orNan fun r h => ⟨width_eq .f32 ▸ Ieee.Format.div_lt _ h, nan_div h⟩
theorem wd_mul (x y : Nat) : Wd (fmul .f32 x y) := wd_orNan fun r h => ⟨width_eq .f32 ▸ Ieee.Format.mul_lt _ h, nan_mul h⟩
theorem wd_plain (s : SrcD) : Wd (plainV s) := wd_div _ _
theorem wd_float (s : SrcD) : Wd (floatV s) := by
  unfold floatV
  cases !(pickV s 12 == 0)
  · cases pickV (pickS s 12) 4 == 0
    · cases pickV (pickS s 12) 4 == 1
      · cases pickV (pickS s 12) 4 == 2
        · exact wd_mul _ _
        · exact wd_from _
      · exact wd_from _
    · exact wd_from _
  · exact wd_plain _
theorem wd_num (xs : List Int) : Wd (numV xs) := by
  unfold numV
  cases pickV (xs, 0, 0) 2 == 0
  · exact wd_float _
  · exact wd_from _

/-! comparisons of a word with some constants -/
theorem pos_max : pos .f32 2139095039 = 2139095039 := by decide +kernel
theorem pos_0 : pos .f32 0 = 0 := by decide +kernel
theorem gt_max {x : Nat} (hx : nan .f32 x = false) (hl : x < 2 * signOf .f32) : fgt .f32 x 2139095039 = Nat.beq x 2139095040 := by
  have r := pos_range hx
  have hI : infOf .f32 = 2139095040 := rfl
  have hS : signOf .f32 = 2147483648 := rfl
  rw [fgt_pos hx (by decide), pos_max]
  rcases x_cases hl with ⟨a, b⟩ | ⟨a, b⟩ <;> unfold pos at r ⊢ <;> rw [a] at r ⊢ <;> simp only [cond_true, cond_false] at r ⊢
  · by_cases e : x = 2139095040
    · rw [nbeq_t e, d_t (by omega)]
    · rw [nbeq_f e, d_f (by omega)]
  · rw [nbeq_f (by omega), d_f (by omega)]
theorem eq_zero {x : Nat} (hx : nan .f32 x = false) (hl : x < 2 * signOf .f32) : feq .f32 x 0 = (Nat.beq x 0 || Nat.beq x 2147483648) := by
  have hS : signOf .f32 = 2147483648 := rfl
  rw [feq_pos hx (by decide), pos_0]
  rcases x_cases hl with ⟨a, b⟩ | ⟨a, b⟩ <;> unfold pos <;> rw [a] <;> simp only [cond_true, cond_false]
  · have hr : rung .f32 x < 2147483648 := Nat.mod_lt _ (by decide)
    by_cases e : x = 0
    · rw [nbeq_t e, d_t (by omega)]; rfl
    · rw [nbeq_f e, nbeq_f (by omega), d_f (by omega)]; rfl
  · by_cases e : x = 2147483648
    · rw [nbeq_t e, d_t (by omega), Bool.or_true]
    · rw [nbeq_f e, nbeq_f (by omega), d_f (by omega)]; rfl
theorem lt_zero {x : Nat} (hx : nan .f32 x = false) (hl : x < 2 * signOf .f32) (h0 : (Nat.beq x 0 || Nat.beq x 2147483648) = false) : flt .f32 x 0 = sg .f32 x := by
  have hS : signOf .f32 = 2147483648 := rfl
  rw [flt_pos hx (by decide), pos_0]
  rcases x_cases hl with ⟨a, b⟩ | ⟨a, b⟩ <;> unfold pos <;> rw [a] <;> simp only [cond_true, cond_false]
  · rw [d_f (by omega)]
  · by_cases e : x = 2147483648
    · rw [nbeq_t e, Bool.or_true] at h0; cases h0
    · rw [d_t (by omega)]
theorem gt_zero {x : Nat} (hx : nan .f32 x = false) (hl : x < 2 * signOf .f32) (h0 : (Nat.beq x 0 || Nat.beq x 2147483648) = false) : fgt .f32 x 0 = !sg .f32 x := by
  have hS : signOf .f32 = 2147483648 := rfl
  rw [fgt_pos hx (by decide), pos_0]
  rcases x_cases hl with ⟨a, b⟩ | ⟨a, b⟩ <;> unfold pos <;> rw [a] <;> simp only [cond_true, cond_false]
  · by_cases e : x = 0
    · rw [nbeq_t e] at h0; cases h0
    · rw [d_t (by omega)]; rfl
  · rw [d_f (by omega)]; rfl
theorem lt_of_pos {x : Nat} (hl : x < 2 * signOf .f32) (h : sg .f32 x = false) : x < 2147483648 := by
  rcases x_cases hl with ⟨a, b⟩ | ⟨a, b⟩
  · rw [b]; exact Nat.mod_lt _ (by decide)
  · rw [h] at a; cases a
theorem upN_32 {x : Nat} (hx : nan .f32 x = false) (hl : x < 2 * signOf .f32) : nan .f32 (upN .f32 x) = false := by
  by_cases h : pos .f32 x = infOf .f32
  · have : x = infOf .f32 := by
      have hI : infOf .f32 = 2139095040 := rfl
      unfold pos at h
      rcases x_cases hl with ⟨a, b⟩ | ⟨a, b⟩ <;> rw [a] at h <;> simp only [cond_true, cond_false] at h <;> omega
    rw [upN_inf this]; exact hx
  · exact (upN_spec hx hl h).1

--B isFin Nat → Bool
def isFin (x : Nat) : Bool := fin .f32 x
--B nextUp Nat → Nat
def nextUp (x : Nat) : Nat := upN .f32 x

/-! laws.b10Long -/
noncomputable def c_laws_b10Long : Ctx := mkC Try.prog tyT [] [] [] 13 (fun _ => none) 0
theorem w_laws_b10Long (xs ys : List Int) (K : V → Heap → Prop) : wpFn c_laws_b10Long Try.f13 (encAs [.cell tB, .cell tB] (xs, ys, ())) [] K =
  cond (decide ((↑(List.length xs) : Int) > 1048576))
    (K (.bool true) [])
    (K (.bool (decide ((↑(List.length ys) : Int) > 1048576))) []) := by kernel_rfl
noncomputable def s_laws_b10Long : Sm := semT [.cell tB, .cell tB] fun x => match x with | (xs, ys, _) => .bool (decide (1048576 < xs.length) || decide (1048576 < ys.length))
theorem ok_laws_b10Long : FnOk Try.prog 13 s_laws_b10Long := fnOk_typed (fnOk_runC (C := c_laws_b10Long) rfl mixed .nil .nil .nil Try.func13 (by kernel_rfl)) fun (x : ((List Int) × (List Int) × Unit)) wf K h => by
  obtain ⟨xs, ys, ⟨⟩⟩ := x
  replace h : K (.bool (decide (1048576 < xs.length) || decide (1048576 < ys.length))) [] := h
  rw [w_laws_b10Long xs ys K]
  have e : ∀ n : Nat, decide ((n : Int) > 1048576) = decide (1048576 < n) := fun n => decide_eq_decide.2 (by omega)
  rw [e, e]
  cases h1 : decide (1048576 < xs.length) <;> rw [h1] at h <;> exact h

/-! spec.l01From -/
noncomputable def c_spec_l01From : Ctx := mkC Try.prog tyT [(127, s_math_Float32frombits)] [] [] 6 (fun _ => none) 0
theorem w_spec_l01From (n : Int) (K : V → Heap → Prop) : wpFn c_spec_l01From Try.f125 (encAs [.cell (.int .i64)] (n, ())) [] K =
  K (.float .f32 (canon FloatKind.f32 (Int.toNat (IntKind.wrap IntKind.u32 n)))) [] := by kernel_rfl
noncomputable def s_spec_l01From : Sm := semT [.cell (.int .i64)] fun x => match x with | (n, _) => .float .f32 (fromV n)
theorem ok_spec_l01From : FnOk Try.prog 125 s_spec_l01From := fnOk_typed (fnOk_runC (C := c_spec_l01From) rfl mixed (.cons ok_math_Float32frombits .nil) .nil .nil Try.func125 (by kernel_rfl)) fun (x : ((Int) × Unit)) wf K h => by
  obtain ⟨n, ⟨⟩⟩ := x
  replace h : K (.float .f32 (fromV n)) [] := h
  rw [w_spec_l01From n K]
  exact h

/-! spec.l01DrawPlain -/
noncomputable def c_spec_l01DrawPlain : Ctx := mkC Try.prog tyT [] [] [(88, s_spec_l00Src_pick), (124, s_spec_l00Src_one)] 15 (fun _ => none) 1
theorem w_spec_l01DrawPlain (s : SrcD) (K : V → Heap → Prop) : wpFnO c_spec_l01DrawPlain Try.f168 (.ptr 0 0 :: encAs [] ()) [.box (enc tSrc s)] K =
  cond (srcIn 6 s)
    (cond (srcIn 6 (pickS s 129))
      (cond (pickV (pickS s 129) 4 == 0)
        (K (.float .f32 (fdiv FloatKind.f32 (FloatKind.nearest FloatKind.f32 (IntKind.wrap IntKind.i64 (pickV s 129 - 64))) 1088421888)) [(.box [(.vec (.int .u8) (Prod.fst (pickS (pickS s 129) 4))), (.int .i64 (Prod.fst (Prod.snd (pickS (pickS s 129) 4)))), (.int .u64 (Prod.snd (Prod.snd (pickS (pickS s 129) 4))))])])
        (K (.float .f32 (fdiv FloatKind.f32 (FloatKind.nearest FloatKind.f32 (IntKind.wrap IntKind.i64 (pickV s 129 - 64))) 1098907648)) [(.box [(.vec (.int .u8) (Prod.fst (pickS (pickS s 129) 4))), (.int .i64 (Prod.fst (Prod.snd (pickS (pickS s 129) 4)))), (.int .u64 (Prod.snd (Prod.snd (pickS (pickS s 129) 4))))])]))
      (False))
    (False) := by kernel_rfl
noncomputable def s_spec_l01DrawPlain : Sm := semP tSrc [] (fun s x => match x with | _ => srcIn 5 s) fun s x => match x with | _ => (.float .f32 (plainV s), plainS s)
theorem ok_spec_l01DrawPlain : FnOkO Try.prog 168 s_spec_l01DrawPlain := fnOkO_box (fnOkO_runC (C := c_spec_l01DrawPlain) rfl mixed .nil .nil (.cons ok_spec_l00Src_pick (.cons ok_spec_l00Src_one .nil)) Try.func168 (by kernel_rfl)) fun (s : SrcD) (x : Unit) ws wf hg K h => by
  obtain ⟨⟩ := x
  replace hg : (srcIn 5 s) = true := hg
  replace h : K (.float .f32 (plainV s)) [.box (enc tSrc (plainS s))] := h
  rw [w_spec_l01DrawPlain s  K]
  have hb : bytes s.1 := bytes_of ws.1
  have r := pickV_range (s := s) hb (n := 129) (by omega)
  have g6 := srcIn_mono (M := 6) hg (by omega)
  have g6' := srcIn_pick 129 hg
  rw [g6, g6']
  simp only [cond_true]
  rw [i64_of (n := pickV s 129 - 64) (by omega) (by omega)]
  unfold plainV plainS at h
  cases e : (pickV (pickS s 129) 4 == 0) <;> rw [e] at h <;> exact h

/-! spec.l01DrawFloat -/
noncomputable def c_spec_l01DrawFloat : Ctx := mkC Try.prog tyT [(125, s_spec_l01From)] [] [(88, s_spec_l00Src_pick), (124, s_spec_l00Src_one), (185, s_spec_l00Src_among), (168, s_spec_l01DrawPlain)] 40 (fun _ => none) 1
theorem w_spec_l01DrawFloat (s : SrcD) (K : V → Heap → Prop) : wpFnO c_spec_l01DrawFloat Try.f126 (.ptr 0 0 :: encAs [] ()) [.box (enc tSrc s)] K =
  cond (srcIn 6 s)
    (cond (!pickV s 12 == 0)
      (cond (srcIn 5 (pickS s 12))
        (K (.float .f32 (plainV (pickS s 12))) [(.box [(.vec (.int .u8) (Prod.fst (plainS (pickS s 12)))), (.int .i64 (Prod.fst (Prod.snd (plainS (pickS s 12))))), (.int .u64 (Prod.snd (Prod.snd (plainS (pickS s 12)))))])])
        (False))
      (cond (srcIn 6 (pickS s 12))
        (cond (pickV (pickS s 12) 4 == 0)
          (cond (srcIn 6 (pickS (pickS s 12) 4) && decide (1 ≤ 10))
            (K (.float .f32 (fromV (Option.getD [0, 2147483648, 2139095040, 4286578688, 2143289344, 1, 2139095039, 8388608, 8388607, 2147483649][Int.toNat (pickV (pickS (pickS s 12) 4) (↑10 : Int))]? 0))) [(.box [(.vec (.int .u8) (Prod.fst (pickS (pickS (pickS s 12) 4) (↑10 : Int)))), (.int .i64 (Prod.fst (Prod.snd (pickS (pickS (pickS s 12) 4) (↑10 : Int))))), (.int .u64 (Prod.snd (Prod.snd (pickS (pickS (pickS s 12) 4) (↑10 : Int)))))])])
            (False))
          (cond (pickV (pickS s 12) 4 == 1)
            (cond (srcIn 6 (pickS (pickS s 12) 4))
              (cond (srcIn 6 (pickS (pickS (pickS s 12) 4) 65536))
                (K (.float .f32 (fromV (IntKind.wrap IntKind.i64 (IntKind.wrap IntKind.i64 (pickV (pickS (pickS s 12) 4) 65536 * 65536) + pickV (pickS (pickS (pickS s 12) 4) 65536) 65536)))) [(.box [(.vec (.int .u8) (Prod.fst (pickS (pickS (pickS (pickS s 12) 4) 65536) 65536))), (.int .i64 (Prod.fst (Prod.snd (pickS (pickS (pickS (pickS s 12) 4) 65536) 65536)))), (.int .u64 (Prod.snd (Prod.snd (pickS (pickS (pickS (pickS s 12) 4) 65536) 65536))))])])
                (False))
              (False))
            (cond (pickV (pickS s 12) 4 == 2)
              (cond (srcIn 6 (pickS (pickS s 12) 4))
                (K (.float .f32 (fromV (IntKind.wrap IntKind.i64 (pickV (pickS (pickS s 12) 4) 65536 * 65536)))) [(.box [(.vec (.int .u8) (Prod.fst (pickS (pickS (pickS s 12) 4) 65536))), (.int .i64 (Prod.fst (Prod.snd (pickS (pickS (pickS s 12) 4) 65536)))), (.int .u64 (Prod.snd (Prod.snd (pickS (pickS (pickS s 12) 4) 65536))))])])
                (False))
              (cond (srcIn 5 (pickS (pickS s 12) 4))
                (cond (srcIn 6 (plainS (pickS (pickS s 12) 4)) && decide (1 ≤ 4))
                  (K (.float .f32 (fmul FloatKind.f32 (plainV (pickS (pickS s 12) 4)) (fromV (Option.getD [8388608, 2130706432, 1610612736, 536870912][Int.toNat (pickV (plainS (pickS (pickS s 12) 4)) (↑4 : Int))]? 0)))) [(.box [(.vec (.int .u8) (Prod.fst (pickS (plainS (pickS (pickS s 12) 4)) (↑4 : Int)))), (.int .i64 (Prod.fst (Prod.snd (pickS (plainS (pickS (pickS s 12) 4)) (↑4 : Int))))), (.int .u64 (Prod.snd (Prod.snd (pickS (plainS (pickS (pickS s 12) 4)) (↑4 : Int)))))])])
                  (False))
                (False)))))
        (False)))
    (False) := by kernel_rfl
noncomputable def s_spec_l01DrawFloat : Sm := semP tSrc [] (fun s x => match x with | _ => srcIn 2 s) fun s x => match x with | _ => (.float .f32 (floatV s), floatS s)
theorem ok_spec_l01DrawFloat : FnOkO Try.prog 126 s_spec_l01DrawFloat := fnOkO_box (fnOkO_runC (C := c_spec_l01DrawFloat) rfl mixed (.cons ok_spec_l01From .nil) .nil (.cons ok_spec_l00Src_pick (.cons ok_spec_l00Src_one (.cons ok_spec_l00Src_among (.cons ok_spec_l01DrawPlain .nil)))) Try.func126 (by kernel_rfl)) fun (s : SrcD) (x : Unit) ws wf hg K h => by
  obtain ⟨⟩ := x
  replace hg : (srcIn 2 s) = true := hg
  replace h : K (.float .f32 (floatV s)) [.box (enc tSrc (floatS s))] := h
  rw [w_spec_l01DrawFloat s  K]
  have g6 := srcIn_mono (M := 6) hg (by omega)
  have g1 := srcIn_pick 12 hg
  have g2 := srcIn_pick 4 g1
  have g3 := srcIn_pick 65536 g2
  have hb : bytes s.1 := bytes_of ws.1
  have b1 : bytes (pickS s 12).1 := by rw [pickS_1]; exact hb
  have b2 : bytes (pickS (pickS s 12) 4).1 := by rw [pickS_1]; exact b1
  have b3 : bytes (pickS (pickS (pickS s 12) 4) 65536).1 := by rw [pickS_1]; exact b2
  have r1 := pickV_range (s := pickS (pickS s 12) 4) b2 (n := 65536) (by omega)
  have r2 := pickV_range (s := pickS (pickS (pickS s 12) 4) 65536) b3 (n := 65536) (by omega)
  have gp : srcIn 6 (plainS (pickS (pickS s 12) 4)) = true := srcIn_pick 4 (srcIn_pick 129 g2)
  rw [i64_of (n := pickV (pickS (pickS s 12) 4) 65536 * 65536) (by omega) (by omega), i64_of (n := pickV (pickS (pickS s 12) 4) 65536 * 65536 + pickV (pickS (pickS (pickS s 12) 4) 65536) 65536) (by omega) (by omega)]
  rw [g6, srcIn_mono (M := 6) g1 (by omega), srcIn_mono (M := 5) g1 (by omega), srcIn_mono (M := 6) g2 (by omega), srcIn_mono (M := 5) g2 (by omega), srcIn_mono (M := 6) g3 (by omega), gp]
  unfold floatV floatS at h
  simp only [cond_true]
  cases e1 : !(pickV s 12 == 0) <;> rw [e1] at h
  · simp only [cond_false] at h ⊢
    cases e2 : pickV (pickS s 12) 4 == 0 <;> rw [e2] at h
    · simp only [cond_false] at h ⊢
      cases e3 : pickV (pickS s 12) 4 == 1 <;> rw [e3] at h
      · simp only [cond_false] at h ⊢
        cases e4 : pickV (pickS s 12) 4 == 2 <;> rw [e4] at h <;> exact h
      · exact h
    · exact h
  · exact h

/-! spec.B10Number -/
noncomputable def c_spec_B10Number : Ctx := mkC Try.prog tyT [(125, s_spec_l01From)] [] [(81, s_spec_l00From), (124, s_spec_l00Src_one), (88, s_spec_l00Src_pick), (126, s_spec_l01DrawFloat)] 19 (fun _ => none) 0
theorem w_spec_B10Number (xs : List Int) (K : V → Heap → Prop) : wpFn c_spec_B10Number Try.f51 (encAs [.cell tB] (xs, ())) [] K =
  cond (pickV (xs, 0, 0) 2 == 0)
    (cond (srcIn 6 (pickS (xs, 0, 0) 2))
      (cond (srcIn 6 (pickS (pickS (xs, 0, 0) 2) 65536))
        (K (.float .f32 (fromV (IntKind.wrap IntKind.i64 (IntKind.wrap IntKind.i64 (pickV (pickS (xs, 0, 0) 2) 65536 * 65536) + pickV (pickS (pickS (xs, 0, 0) 2) 65536) 65536)))) [])
        (False))
      (False))
    (cond (srcIn 2 (pickS (xs, 0, 0) 2))
      (K (.float .f32 (floatV (pickS (xs, 0, 0) 2))) [])
      (False)) := by kernel_rfl
noncomputable def s_spec_B10Number : Sm := semT [.cell tB] fun x => match x with | (xs, _) => .float .f32 (numV xs)
theorem ok_spec_B10Number : FnOk Try.prog 51 s_spec_B10Number := fnOk_typed (fnOk_runC (C := c_spec_B10Number) rfl mixed (.cons ok_spec_l01From .nil) .nil (.cons ok_spec_l00From (.cons ok_spec_l00Src_one (.cons ok_spec_l00Src_pick (.cons ok_spec_l01DrawFloat .nil)))) Try.func51 (by kernel_rfl)) fun (x : ((List Int) × Unit)) wf K h => by
  obtain ⟨xs, ⟨⟩⟩ := x
  replace h : K (.float .f32 (numV xs)) [] := h
  rw [w_spec_B10Number xs K]
  have hb : bytes xs := bytes_of wf.1
  have g0 : srcIn 1 (xs, 0, 0) = true := srcIn_iff.2 ⟨Int.le_refl _, by show (0 : Int) ≤ _; decide⟩
  have g1 := srcIn_pick 2 g0
  have g2 := srcIn_pick 65536 g1
  have b1 : bytes (pickS (xs, 0, 0) 2).1 := by rw [pickS_1]; exact hb
  have b2 : bytes (pickS (pickS (xs, 0, 0) 2) 65536).1 := by rw [pickS_1]; exact b1
  have r1 := pickV_range (s := pickS (xs, 0, 0) 2) b1 (n := 65536) (by omega)
  have r2 := pickV_range (s := pickS (pickS (xs, 0, 0) 2) 65536) b2 (n := 65536) (by omega)
  rw [i64_of (n := pickV (pickS (xs, 0, 0) 2) 65536 * 65536) (by omega) (by omega), i64_of (n := pickV (pickS (xs, 0, 0) 2) 65536 * 65536 + pickV (pickS (pickS (xs, 0, 0) 2) 65536) 65536) (by omega) (by omega)]
  rw [srcIn_mono (M := 6) g1 (by omega), srcIn_mono (M := 6) g2 (by omega), g1]
  unfold numV at h
  simp only [cond_true]
  cases e : pickV (xs, 0, 0) 2 == 0 <;> rw [e] at h <;> exact h

/-! impl.in -/
noncomputable def c_impl_in : Ctx := mkC Try.prog tyT [] [] [] 15 (fun _ => none) 0
theorem w_impl_in (n lo hi : Int) (K : V → Heap → Prop) : wpFn c_impl_in Try.f92 (encAs [.cell (.int .i64), .cell (.int .i64), .cell (.int .i64)] (n, lo, hi, ())) [] K =
  cond (decide (n ≥ lo))
    (K (.bool (decide (n ≤ hi))) [])
    (K (.bool false) []) := by kernel_rfl
noncomputable def s_impl_in : Sm := semT [.cell (.int .i64), .cell (.int .i64), .cell (.int .i64)] fun x => match x with | (n, lo, hi, _) => .bool (decide (lo ≤ n) && decide (n ≤ hi))
theorem ok_impl_in : FnOk Try.prog 92 s_impl_in := fnOk_typed (fnOk_runC (C := c_impl_in) rfl mixed .nil .nil .nil Try.func92 (by kernel_rfl)) fun (x : ((Int) × (Int) × (Int) × Unit)) wf K h => by
  obtain ⟨n, lo, hi, ⟨⟩⟩ := x
  replace h : K (.bool (decide (lo ≤ n) && decide (n ≤ hi))) [] := h
  rw [w_impl_in n lo hi K]
  rw [show decide (n ≥ lo) = decide (lo ≤ n) from rfl]
  cases e : decide (lo ≤ n) <;> rw [e] at h <;> exact h

/-! impl.BitsOf -/
noncomputable def c_impl_BitsOf : Ctx := mkC Try.prog tyT [(215, s_impl_isNaN), (128, s_math_Float32bits)] [] [] 8 (fun _ => none) 0
theorem w_impl_BitsOf (x : Nat) (K : V → Heap → Prop) : wpFn c_impl_BitsOf Try.f197 (encAs [.cell tF] (x, ())) [] K =
  cond (nan FloatKind.f32 x)
    (K (.int .i64 2143289344) [])
    (cond (nan FloatKind.f32 x)
      (False)
      (K (.int .i64 (IntKind.wrap IntKind.i64 (↑x : Int))) [])) := by kernel_rfl
noncomputable def s_impl_BitsOf : Sm := semT [.cell tF] fun x => match x with | (x, _) => .int .i64 x
theorem ok_impl_BitsOf : FnOk Try.prog 197 s_impl_BitsOf := fnOk_typed (fnOk_runC (C := c_impl_BitsOf) rfl mixed (.cons ok_impl_isNaN (.cons ok_math_Float32bits .nil)) .nil .nil Try.func197 (by kernel_rfl)) fun (x : ((Nat) × Unit)) wf K h => by
  obtain ⟨x, ⟨⟩⟩ := x
  replace h : K (.int .i64 x) [] := h
  rw [w_impl_BitsOf x K]
  obtain ⟨⟨w1, w2⟩, _⟩ := wf
  cases e : nan .f32 x with
  | true => simp only [cond_true]; replace w2 : canon .f32 x = x := w2; rw [← w2, canon_nan e] at h; exact h
  | false =>
    simp only [cond_false]
    rw [i64_of (by omega) (Int.le_trans (Int.ofNat_le.2 (Nat.le_of_lt w1)) (by decide))]
    exact h

--B inU Int → Bool
def inU (n : Int) : Bool := decide (0 ≤ n) && decide (n ≤ 4294967295)
/-! impl.FromBits -/
noncomputable def c_impl_FromBits : Ctx := mkC Try.prog tyT [(92, s_impl_in), (127, s_math_Float32frombits)] [] [] 10 (fun _ => none) 0
theorem w_impl_FromBits (n : Int) (K : V → Heap → Prop) : wpFn c_impl_FromBits Try.f228 (encAs [.cell (.int .i64)] (n, ())) [] K =
  cond (!(decide (0 ≤ n) && decide (n ≤ 4294967295)))
    (K (.tuple [(.float .f32 0), (.bool false)]) [])
    (K (.tuple [(.float .f32 (canon FloatKind.f32 (Int.toNat (IntKind.wrap IntKind.u32 n)))), (.bool true)]) []) := by kernel_rfl
noncomputable def s_impl_FromBits : Sm := semT [.cell (.int .i64)] fun x => match x with | (n, _) => .tuple [.float .f32 (bif inU n then fromV n else 0), .bool (inU n)]
theorem ok_impl_FromBits : FnOk Try.prog 228 s_impl_FromBits := fnOk_typed (fnOk_runC (C := c_impl_FromBits) rfl mixed (.cons ok_impl_in (.cons ok_math_Float32frombits .nil)) .nil .nil Try.func228 (by kernel_rfl)) fun (x : ((Int) × Unit)) wf K h => by
  obtain ⟨n, ⟨⟩⟩ := x
  replace h : K (.tuple [.float .f32 (bif inU n then fromV n else 0), .bool (inU n)]) [] := h
  rw [w_impl_FromBits n K]
  unfold inU fromV at h
  cases e : (decide (0 ≤ n) && decide (n ≤ 4294967295)) <;> rw [e] at h <;> exact h

/-! impl.IsFinite -/
noncomputable def c_impl_IsFinite : Ctx := mkC Try.prog tyT [] [] [] 7 (fun _ => none) 0
theorem w_impl_IsFinite (x : Nat) (K : V → Heap → Prop) : wpFn c_impl_IsFinite Try.f122 (encAs [.cell tF] (x, ())) [] K =
  K (.bool (feq FloatKind.f32 (fsub FloatKind.f32 x x) 0)) [] := by kernel_rfl
noncomputable def s_impl_IsFinite : Sm := semT [.cell tF] fun x => match x with | (x, _) => .bool (isFin x)
theorem ok_impl_IsFinite : FnOk Try.prog 122 s_impl_IsFinite := fnOk_typed (fnOk_runC (C := c_impl_IsFinite) rfl mixed .nil .nil .nil Try.func122 (by kernel_rfl)) fun (x : ((Nat) × Unit)) wf K h => by
  obtain ⟨x, ⟨⟩⟩ := x
  replace h : K (.bool (isFin x)) [] := h
  rw [w_impl_IsFinite x K]
  rw [sub_self wf.1.1]
  exact h




/-! spec.SameNumber -/
noncomputable def c_spec_SameNumber : Ctx := mkC Try.prog tyT [(87, s_spec_l01Same)] [] [] 8 (fun _ => none) 0
theorem w_spec_SameNumber (x y : Nat) (K : V → Heap → Prop) : wpFn c_spec_SameNumber Try.f19 (encAs [.cell tF, .cell tF] (x, y, ())) [] K =
  K (.bool (x == y)) [] := by kernel_rfl
noncomputable def s_spec_SameNumber : Sm := semT [.cell tF, .cell tF] fun x => match x with | (x, y, _) => .bool (x == y)
theorem ok_spec_SameNumber : FnOk Try.prog 19 s_spec_SameNumber := fnOk_typed (fnOk_runC (C := c_spec_SameNumber) rfl mixed (.cons ok_spec_l01Same .nil) .nil .nil Try.func19 (by kernel_rfl)) fun (x : ((Nat) × (Nat) × Unit)) wf K h => by
  obtain ⟨x, y, ⟨⟩⟩ := x
  replace h : K (.bool (x == y)) [] := h
  rw [w_spec_SameNumber x y K]
  exact h

theorem beq_lit (x n : Nat) : ((x : Int) == (n : Int)) = Nat.beq x n := by
  rw [beq_cast]
  by_cases e : x = n
  · rw [nbeq_t e, e, beq_self_eq_true]
  · rw [nbeq_f e, beq_eq_false_iff_ne.2 e]

/-! words that are numbers, and where they lie -/
structure Nm (x : Nat) : Prop where
  n : nan .f32 x = false
  l : x < 2 * signOf .f32
def upP (p : Int) : Int := if p = 2139095040 then p else p + 1
theorem Nm.up {x : Nat} (h : Nm x) : Nm (nextUp x) ∧ pos .f32 (nextUp x) = upP (pos .f32 x) := by
  have hI : infOf .f32 = 2139095040 := rfl
  have hS : signOf .f32 = 2147483648 := rfl
  unfold nextUp upP
  by_cases e : pos .f32 x = 2139095040
  · rw [if_pos e]
    have : x = infOf .f32 := by
      unfold pos at e
      rcases x_cases h.l with ⟨a, b⟩ | ⟨a, b⟩ <;> rw [a] at e <;> simp only [cond_true, cond_false] at e <;> omega
    rw [upN_inf this]
    exact ⟨h, rfl⟩
  · rw [if_neg e]
    obtain ⟨a, b, c⟩ := upN_spec h.n h.l (by rw [hI]; exact e)
    exact ⟨⟨a, b⟩, c⟩
theorem Nm.neg {x : Nat} (h : Nm x) : Nm (fneg .f32 x) ∧ pos .f32 (fneg .f32 x) = -pos .f32 x := by
  obtain ⟨_, b, c, _, _⟩ := fneg_ev h.n h.l
  exact ⟨⟨b, c⟩, pos_neg h.n h.l⟩
theorem Nm.dn {x : Nat} (h : Nm x) : Nm (fneg .f32 (nextUp (fneg .f32 x))) ∧ pos .f32 (fneg .f32 (nextUp (fneg .f32 x))) = -upP (-pos .f32 x) := by
  obtain ⟨a, b⟩ := h.neg
  obtain ⟨c, d⟩ := a.up
  obtain ⟨e, f⟩ := c.neg
  exact ⟨e, by rw [f, d, b]⟩
theorem Nm.range {x : Nat} (h : Nm x) : -2139095040 ≤ pos .f32 x ∧ pos .f32 x ≤ 2139095040 := pos_range h.n
theorem Nm.fin {x : Nat} (h : Nm x) : isFin x = (decide (-2139095040 < pos .f32 x) && decide (pos .f32 x < 2139095040)) := by
  have := fin_pos h.n
  unfold isFin
  rw [← Bool.decide_and]
  by_cases e : -2139095040 < pos .f32 x ∧ pos .f32 x < 2139095040
  · rw [d_t e]; exact this.2 e
  · rw [d_f e]
    cases h2 : Fl.fin .f32 x with
    | false => rfl
    | true => exact absurd (this.1 h2) e
theorem nan_neg (x : Nat) (hl : x < 2 * signOf .f32) (h : nan .f32 x = true) : nan .f32 (fneg .f32 x) = true := by
  unfold fneg
  rw [nan_canon]
  rw [nan_iff] at h ⊢
  have hS : signOf .f32 = 2 ^ 31 := rfl
  rw [hS] at h hl ⊢
  rw [Nat.xor_mod_two_pow, Nat.mod_self, Nat.xor_zero]
  exact h
theorem and_fin {x : Nat} (hl : x < 2 * signOf .f32) : (IntKind.i64.wrap ((BitVec.toNat (BitVec.ofInt 64 (x : Int) &&& BitVec.ofInt 64 2139095040) : Nat) : Int) != 2139095040) = isFin x := by
  have hS : 2 * signOf .f32 = 4294967296 := rfl
  have e1 : (BitVec.ofInt 64 (x : Int)).toNat = x := by
    rw [BitVec.toNat_ofInt]
    omega
  have e2 : (BitVec.ofInt 64 2139095040).toNat = 2139095040 := by decide
  rw [BitVec.toNat_and, e1, e2]
  have d1 := Nat.div_add_mod (x &&& 2139095040) (2 ^ 23)
  have d2 : (x &&& 2139095040) % 2 ^ 23 = 0 := by
    rw [Nat.and_mod_two_pow, show 2139095040 % 2 ^ 23 = 0 by decide, Nat.and_zero]
  have d3 : (x &&& 2139095040) / 2 ^ 23 = x / 2 ^ 23 % 256 := by
    rw [Nat.and_div_two_pow, show 2139095040 / 2 ^ 23 = 2 ^ 8 - 1 by decide, Nat.and_two_pow_sub_one_eq_mod]
  rw [d2, d3] at d1
  have hle : x &&& 2139095040 ≤ 2139095040 := Nat.and_le_right
  generalize x &&& 2139095040 = z at *
  rw [i64_of (by omega) (by omega)]
  unfold isFin
  have hr : rung .f32 x = x % 2147483648 := rfl
  have hI : infOf .f32 = 2139095040 := rfl
  have hf := @fin_iff .f32 x
  rw [hr, hI] at hf
  have e3 : (2 : Nat) ^ 23 = 8388608 := by decide
  rw [e3] at d1
  by_cases e : (z : Int) = 2139095040
  · rw [e, bne_self_eq_false]
    cases h2 : Fl.fin .f32 x with
    | false => rfl
    | true => have := hf.1 h2; omega
  · rw [bne_iff_ne.2 e]
    exact (hf.2 (by omega)).symm
theorem wd_from_self {x : Nat} (h : Wd x) : fromV (x : Int) = x := by
  have hS : 2 * signOf .f32 = 4294967296 := rfl
  have := h.1
  unfold fromV
  rw [show IntKind.u32.wrap (x : Int) = x by rw [IntKind.wrap_u32]; omega, Int.toNat_natCast, h.2]
theorem inU_wd {x : Nat} (h : Wd x) : inU (x : Int) = true := by
  have hS : 2 * signOf .f32 = 4294967296 := rfl
  have := h.1
  unfold inU
  rw [d_t (by omega), d_t (by omega)]; rfl
theorem nan_wd {x : Nat} (h : Wd x) : ((x : Int) == 2143289344) = nan .f32 x := by
  rw [show ((x : Int) == 2143289344) = Nat.beq x 2143289344 from beq_lit x 2143289344]
  cases e : nan .f32 x with
  | true =>
    have := h.2
    rw [canon_nan e] at this
    exact nbeq_t this.symm
  | false =>
    refine nbeq_f fun c => ?_
    subst c
    exact absurd e (by decide)






--B bAtV List Int → Int → Int → Int
def bAtV (xs : List Int) (i n : Int) : Int := bif decide (n ≤ 1) then 0 else bif decide (i < (xs.length : Int)) then ((xs[i.toNat]?).getD 0).tmod n else (i * 37 + 11).tmod n
/-! laws.b10At -/
noncomputable def c_laws_b10At : Ctx := mkC Try.prog tyT [] [] [] 25 (fun _ => none) 0
theorem w_laws_b10At (xs : List Int) (i n : Int) (K : V → Heap → Prop) : wpFn c_laws_b10At Try.f14 (encAs [.cell tB, .cell (.int .i64), .cell (.int .i64)] (xs, i, n, ())) [] K =
  cond (decide (n ≤ 1))
    (K (.int .i64 0) [])
    (cond (decide (i < (↑(List.length xs) : Int)))
      (cond (decide (0 ≤ i))
        ((match xs[Int.toNat i]? with
          | some y0 => cond (n == 0)
            (False)
            (K (.int .i64 (Int.tmod (IntKind.wrap IntKind.i64 y0) n)) [])
          | none => False))
        (False))
      (cond (n == 0)
        (False)
        (K (.int .i64 (Int.tmod (IntKind.wrap IntKind.i64 (IntKind.wrap IntKind.i64 (i * 37) + 11)) n)) []))) := by kernel_rfl
noncomputable def s_laws_b10At : Sm := semG [.cell tB, .cell (.int .i64), .cell (.int .i64)] (fun x => match x with | (xs, i, n, _) => decide (0 ≤ i) && decide (i ≤ 1000)) fun x => match x with | (xs, i, n, _) => .int .i64 (bAtV xs i n)
theorem ok_laws_b10At : FnOk Try.prog 14 s_laws_b10At := fnOk_typedG (fnOk_runC (C := c_laws_b10At) rfl mixed .nil .nil .nil Try.func14 (by kernel_rfl)) fun (x : ((List Int) × (Int) × (Int) × Unit)) wf hg K h => by
  obtain ⟨xs, i, n, ⟨⟩⟩ := x
  replace hg : (decide (0 ≤ i) && decide (i ≤ 1000)) = true := hg
  replace h : K (.int .i64 (bAtV xs i n)) [] := h
  rw [w_laws_b10At xs i n K]
  simp only [Bool.and_eq_true, decide_eq_true_eq] at hg
  unfold bAtV at h
  by_cases h1 : n ≤ 1
  · rw [d_t h1] at h ⊢; exact h
  · rw [d_f h1] at h ⊢
    simp only [cond_false] at h ⊢
    rw [beq_eq_false_iff_ne.2 (show n ≠ 0 by omega)]
    by_cases h2 : i < (xs.length : Int)
    · rw [d_t h2] at h ⊢
      have hl : i.toNat < xs.length := by omega
      rw [d_t hg.1, get_lt hl] at *
      have hb := bytes_of wf.1 _ (List.getElem_mem hl)
      simp only [cond_true, cond_false, Option.getD_some] at h ⊢
      rw [i64_of (by omega) (by omega)]
      exact h
    · rw [d_f h2] at h ⊢
      rw [i64_of (n := i * 37) (by omega) (by omega), i64_of (by omega) (by omega)]
      exact h

theorem bAt_range {xs : List Int} (hb : bytes xs) {i n : Int} (hi : 0 ≤ i) (hn : 1 ≤ n) : 0 ≤ bAtV xs i n ∧ bAtV xs i n < n := by
  unfold bAtV
  by_cases h1 : n ≤ 1
  · rw [d_t h1]; simp only [cond_true]; omega
  · rw [d_f h1]
    simp only [cond_false]
    by_cases h2 : i < (xs.length : Int)
    · rw [d_t h2]
      have hl : i.toNat < xs.length := by omega
      have := hb _ (List.getElem_mem hl)
      rw [get_lt hl]
      simp only [cond_true, Option.getD_some]
      exact ⟨Int.tmod_nonneg _ this.1, Int.tmod_lt_of_pos _ (by omega)⟩
    · rw [d_f h2]
      exact ⟨Int.tmod_nonneg _ (by omega), Int.tmod_lt_of_pos _ (by omega)⟩



end Go.Proofs.Ytkdkcdkjfiabfaa
