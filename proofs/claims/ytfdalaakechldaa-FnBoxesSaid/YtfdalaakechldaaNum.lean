/- Numbers that the laws draw, and the functions of single numbers. -/
import Derived.Test.YtfdalaakechldaaSrc
import Derived.Test.YtfdalaakechldaaFlG
set_option linter.unusedVariables false
set_option linter.unusedSimpArgs false
set_option maxRecDepth 100000
namespace Go.Proofs.Ytfdalaakechldaa
open Go.Ev Go.Ev.Fl

theorem srcIn_mono {L M : Nat} {s : SrcD} (h : srcIn L s = true) (hl : L ≤ M) : srcIn M s = true := by
  rw [srcIn_iff] at h ⊢
  omega
theorem srcIn_pick {L : Nat} {s : SrcD} (n : Int) (h : srcIn L s = true) : srcIn (L + 1) (pickS s n) = true := by
  have := pickS_at s n
  rw [srcIn_iff] at h ⊢
  omega

--B fromV Int → Nat
def fromV (n : Int) : Nat := canon .f32 (IntKind.u32.wrap n).toNat
--B plainV SrcD → Nat
def plainV (s : SrcD) : Nat := fdiv .f32 (FloatKind.f32.nearest (pickV s 129 - 64)) (bif pickV (pickS s 129) 4 == 0 then 1088421888 else 1098907648)
--B plainS SrcD → SrcD
def plainS (s : SrcD) : SrcD := pickS (pickS s 129) 4
def listA : List Int := [0, 2147483648, 2139095040, 4286578688, 2143289344, 1, 2139095039, 8388608, 8388607, 2147483649]
def listB : List Int := [8388608, 2130706432, 1610612736, 536870912]
--B floatV SrcD → Nat
def floatV (s : SrcD) : Nat :=
  bif !(pickV s 12 == 0) then plainV (pickS s 12) else
  bif pickV (pickS s 12) 4 == 0 then fromV ((listA[(pickV (pickS (pickS s 12) 4) 10).toNat]?).getD 0) else
  bif pickV (pickS s 12) 4 == 1 then fromV (pickV (pickS (pickS s 12) 4) 65536 * 65536 + pickV (pickS (pickS (pickS s 12) 4) 65536) 65536) else
  bif pickV (pickS s 12) 4 == 2 then fromV (pickV (pickS (pickS s 12) 4) 65536 * 65536) else
  fmul .f32 (plainV (pickS (pickS s 12) 4)) (fromV ((listB[(pickV (plainS (pickS (pickS s 12) 4)) 4).toNat]?).getD 0))
--B floatS SrcD → SrcD
def floatS (s : SrcD) : SrcD :=
  bif !(pickV s 12 == 0) then plainS (pickS s 12) else
  bif pickV (pickS s 12) 4 == 0 then pickS (pickS (pickS s 12) 4) 10 else
  bif pickV (pickS s 12) 4 == 1 then pickS (pickS (pickS (pickS s 12) 4) 65536) 65536 else
  bif pickV (pickS s 12) 4 == 2 then pickS (pickS (pickS s 12) 4) 65536 else
  pickS (plainS (pickS (pickS s 12) 4)) 4
--B numV List Int → Nat
def numV (xs : List Int) : Nat :=
  bif pickV (xs, 0, 0) 2 == 0 then fromV (pickV (pickS (xs, 0, 0) 2) 65536 * 65536 + pickV (pickS (pickS (xs, 0, 0) 2) 65536) 65536) else floatV (pickS (xs, 0, 0) 2)

/-! words of numbers -/
def Wd (x : Nat) : Prop := x < 2 * signOf .f32 ∧ canon .f32 x = x
theorem wd_from (n : Int) : Wd (fromV n) := by
  unfold fromV
  refine ⟨canon_lt ?_, canon_canon _ _⟩
  have : 2 * signOf .f32 = 4294967296 := rfl
  rw [IntKind.wrap_u32]
  omega
theorem wd_orNan {o : Option Nat} (h : ∀ r, o = some r → r < 2 * signOf .f32 ∧ nan .f32 r = false) : Wd (orNan .f32 o) := by
  cases o with
  | none => exact ⟨qnan_lt .f32, canon_nan (nan_qnan .f32)⟩
  | some r => exact ⟨(h r rfl).1, canon_not (h r rfl).2⟩
theorem wd_div (x y : Nat) : Wd (fdiv .f32 x y) := wd_orNan fun r h => ⟨width_eq .f32 ▸ Ieee.Format.div_lt _ h, nan_div h⟩
theorem wd_mul (x y : Nat) : Wd (fmul .f32 x y) := wd_orNan fun r h => ⟨width_eq .f32 ▸ Ieee.Format.mul_lt _ h, nan_mul h⟩
theorem wd_plain (s : SrcD) : Wd (plainV s) := wd_div _ _
theorem wd_float (s : SrcD) : Wd (floatV s) := by
  unfold floatV
  cases !(pickV s 12 == 0)
  · cases pickV (pickS s 12) 4 == 0
    · cases pickV (pickS s 12) 4 == 1
      · cases pickV (pickS s 12) 4 == 2
        · exact wd_mul _ _
        · exact wd_from _
      · exact wd_from _
    · exact wd_from _
  · exact wd_plain _
theorem wd_num (xs : List Int) : Wd (numV xs) := by
  unfold numV
  cases pickV (xs, 0, 0) 2 == 0
  · exact wd_float _
  · exact wd_from _

/-! comparisons of a word with some constants -/
theorem pos_max : pos .f32 2139095039 = 2139095039 := by decide +kernel
theorem pos_0 : pos .f32 0 = 0 := by decide +kernel
theorem gt_max {x : Nat} (hx : nan .f32 x = false) (hl : x < 2 * signOf .f32) : fgt .f32 x 2139095039 = Nat.beq x 2139095040 := by
  have r := pos_range hx
  have hI : infOf .f32 = 2139095040 := rfl
  have hS : signOf .f32 = 2147483648 := rfl
  rw [fgt_pos hx (by decide), pos_max]
  rcases x_cases hl with ⟨a, b⟩ | ⟨a, b⟩ <;> unfold pos at r ⊢ <;> rw [a] at r ⊢ <;> simp only [cond_true, cond_false] at r ⊢
  · by_cases e : x = 2139095040
    · rw [nbeq_t e, d_t (by omega)]
    · rw [nbeq_f e, d_f (by omega)]
  · rw [nbeq_f (by omega), d_f (by omega)]
theorem eq_zero {x : Nat} (hx : nan .f32 x = false) (hl : x < 2 * signOf .f32) : feq .f32 x 0 = (Nat.beq x 0 || Nat.beq x 2147483648) := by
  have hS : signOf .f32 = 2147483648 := rfl
  rw [feq_pos hx (by decide), pos_0]
  rcases x_cases hl with ⟨a, b⟩ | ⟨a, b⟩ <;> unfold pos <;> rw [a] <;> simp only [cond_true, cond_false]
  · have hr : rung .f32 x < 2147483648 := Nat.mod_lt _ (by decide)
    by_cases e : x = 0
    · rw [nbeq_t e, d_t (by omega)]; rfl
    · rw [nbeq_f e, nbeq_f (by omega), d_f (by omega)]; rfl
  · by_cases e : x = 2147483648
    · rw [nbeq_t e, d_t (by omega), Bool.or_true]
    · rw [nbeq_f e, nbeq_f (by omega), d_f (by omega)]; rfl
theorem lt_zero {x : Nat} (hx : nan .f32 x = false) (hl : x < 2 * signOf .f32) (h0 : (Nat.beq x 0 || Nat.beq x 2147483648) = false) : flt .f32 x 0 = sg .f32 x := by
  have hS : signOf .f32 = 2147483648 := rfl
  rw [flt_pos hx (by decide), pos_0]
  rcases x_cases hl with ⟨a, b⟩ | ⟨a, b⟩ <;> unfold pos <;> rw [a] <;> simp only [cond_true, cond_false]
  · rw [d_f (by omega)]
  · by_cases e : x = 2147483648
    · rw [nbeq_t e, Bool.or_true] at h0; cases h0
    · rw [d_t (by omega)]
theorem gt_zero {x : Nat} (hx : nan .f32 x = false) (hl : x < 2 * signOf .f32) (h0 : (Nat.beq x 0 || Nat.beq x 2147483648) = false) : fgt .f32 x 0 = !sg .f32 x := by
  have hS : signOf .f32 = 2147483648 := rfl
  rw [fgt_pos hx (by decide), pos_0]
  rcases x_cases hl with ⟨a, b⟩ | ⟨a, b⟩ <;> unfold pos <;> rw [a] <;> simp only [cond_true, cond_false]
  · by_cases e : x = 0
    · rw [nbeq_t e] at h0; cases h0
    · rw [d_t (by omega)]; rfl
  · rw [d_f (by omega)]; rfl
theorem lt_of_pos {x : Nat} (hl : x < 2 * signOf .f32) (h : sg .f32 x = false) : x < 2147483648 := by
  rcases x_cases hl with ⟨a, b⟩ | ⟨a, b⟩
  · rw [b]; exact Nat.mod_lt _ (by decide)
  · rw [h] at a; cases a
theorem upN_32 {x : Nat} (hx : nan .f32 x = false) (hl : x < 2 * signOf .f32) : nan .f32 (upN .f32 x) = false := by
  by_cases h : pos .f32 x = infOf .f32
  · have : x = infOf .f32 := by
      have hI : infOf .f32 = 2139095040 := rfl
      unfold pos at h
      rcases x_cases hl with ⟨a, b⟩ | ⟨a, b⟩ <;> rw [a] at h <;> simp only [cond_true, cond_false] at h <;> omega
    rw [upN_inf this]; exact hx
  · exact (upN_spec hx hl h).1

--B isFin Nat → Bool
def isFin (x : Nat) : Bool := fin .f32 x
--B nextUp Nat → Nat
def nextUp (x : Nat) : Nat := upN .f32 x






/-! impl.in -/
noncomputable def c_impl_in : Ctx := mkC Try.prog tyT [] [] [] 15 (fun _ => none) 0
theorem w_impl_in (n lo hi : Int) (K : V → Heap → Prop) : wpFn c_impl_in Try.f27 (encAs [.cell (.int .i64), .cell (.int .i64), .cell (.int .i64)] (n, lo, hi, ())) [] K =
  cond (decide (n ≥ lo))
    (K (.bool (decide (n ≤ hi))) [])
    (K (.bool false) []) := by kernel_rfl
noncomputable def s_impl_in : Sm := semT [.cell (.int .i64), .cell (.int .i64), .cell (.int .i64)] fun x => match x with | (n, lo, hi, _) => .bool (decide (lo ≤ n) && decide (n ≤ hi))
theorem ok_impl_in : FnOk Try.prog 27 s_impl_in := fnOk_typed (fnOk_runC (C := c_impl_in) rfl mixed .nil .nil .nil Try.func27 (by kernel_rfl)) fun (x : ((Int) × (Int) × (Int) × Unit)) wf K h => by
  obtain ⟨n, lo, hi, ⟨⟩⟩ := x
  replace h : K (.bool (decide (lo ≤ n) && decide (n ≤ hi))) [] := h
  rw [w_impl_in n lo hi K]
  rw [show decide (n ≥ lo) = decide (lo ≤ n) from rfl]
  cases e : decide (lo ≤ n) <;> rw [e] at h <;> exact h


--B inU Int → Bool
def inU (n : Int) : Bool := decide (0 ≤ n) && decide (n ≤ 4294967295)

/-! impl.IsFinite -/
noncomputable def c_impl_IsFinite : Ctx := mkC Try.prog tyT [] [] [] 7 (fun _ => none) 0
theorem w_impl_IsFinite (x : Nat) (K : V → Heap → Prop) : wpFn c_impl_IsFinite Try.f38 (encAs [.cell tF] (x, ())) [] K =
  K (.bool (feq FloatKind.f32 (fsub FloatKind.f32 x x) 0)) [] := by kernel_rfl
noncomputable def s_impl_IsFinite : Sm := semT [.cell tF] fun x => match x with | (x, _) => .bool (isFin x)
theorem ok_impl_IsFinite : FnOk Try.prog 38 s_impl_IsFinite := fnOk_typed (fnOk_runC (C := c_impl_IsFinite) rfl mixed .nil .nil .nil Try.func38 (by kernel_rfl)) fun (x : ((Nat) × Unit)) wf K h => by
  obtain ⟨x, ⟨⟩⟩ := x
  replace h : K (.bool (isFin x)) [] := h
  rw [w_impl_IsFinite x K]
  rw [sub_self wf.1.1]
  exact h





theorem beq_lit (x n : Nat) : ((x : Int) == (n : Int)) = Nat.beq x n := by
  rw [beq_cast]
  by_cases e : x = n
  · rw [nbeq_t e, e, beq_self_eq_true]
  · rw [nbeq_f e, beq_eq_false_iff_ne.2 e]

/-! words that are numbers, and where they lie -/
structure Nm (x : Nat) : Prop where
  n : nan .f32 x = false
  l : x < 2 * signOf .f32
def upP (p : Int) : Int := if p = 2139095040 then p else p + 1
theorem Nm.up {x : Nat} (h : Nm x) : Nm (nextUp x) ∧ pos .f32 (nextUp x) = upP (pos .f32 x) := by
  have hI : infOf .f32 = 2139095040 := rfl
  have hS : signOf .f32 = 2147483648 := rfl
  unfold nextUp upP
  by_cases e : pos .f32 x = 2139095040
  · rw [if_pos e]
    have : x = infOf .f32 := by
      unfold pos at e
      rcases x_cases h.l with ⟨a, b⟩ | ⟨a, b⟩ <;> rw [a] at e <;> simp only [cond_true, cond_false] at e <;> omega
    rw [upN_inf this]
    exact ⟨h, rfl⟩
  · rw [if_neg e]
    obtain ⟨a, b, c⟩ := upN_spec h.n h.l (by rw [hI]; exact e)
    exact ⟨⟨a, b⟩, c⟩
theorem Nm.neg {x : Nat} (h : Nm x) : Nm (fneg .f32 x) ∧ pos .f32 (fneg .f32 x) = -pos .f32 x := by
  obtain ⟨_, b, c, _, _⟩ := fneg_ev h.n h.l
  exact ⟨⟨b, c⟩, pos_neg h.n h.l⟩
theorem Nm.dn {x : Nat} (h : Nm x) : Nm (fneg .f32 (nextUp (fneg .f32 x))) ∧ pos .f32 (fneg .f32 (nextUp (fneg .f32 x))) = -upP (-pos .f32 x) := by
  obtain ⟨a, b⟩ := h.neg
  obtain ⟨c, d⟩ := a.up
  obtain ⟨e, f⟩ := c.neg
  exact ⟨e, by rw [f, d, b]⟩
theorem Nm.range {x : Nat} (h : Nm x) : -2139095040 ≤ pos .f32 x ∧ pos .f32 x ≤ 2139095040 := pos_range h.n
theorem Nm.fin {x : Nat} (h : Nm x) : isFin x = (decide (-2139095040 < pos .f32 x) && decide (pos .f32 x < 2139095040)) := by
  have := fin_pos h.n
  unfold isFin
  rw [← Bool.decide_and]
  by_cases e : -2139095040 < pos .f32 x ∧ pos .f32 x < 2139095040
  · rw [d_t e]; exact this.2 e
  · rw [d_f e]
    cases h2 : Fl.fin .f32 x with
    | false => rfl
    | true => exact absurd (this.1 h2) e
theorem nan_neg (x : Nat) (hl : x < 2 * signOf .f32) (h : nan .f32 x = true) : nan .f32 (fneg .f32 x) = true := by
  unfold fneg
  rw [nan_canon]
  rw [nan_iff] at h ⊢
  have hS : signOf .f32 = 2 ^ 31 := rfl
  rw [hS] at h hl ⊢
  rw [Nat.xor_mod_two_pow, Nat.mod_self, Nat.xor_zero]
  exact h
theorem and_fin {x : Nat} (hl : x < 2 * signOf .f32) : (IntKind.i64.wrap ((BitVec.toNat (BitVec.ofInt 64 (x : Int) &&& BitVec.ofInt 64 2139095040) : Nat) : Int) != 2139095040) = isFin x := by
  have hS : 2 * signOf .f32 = 4294967296 := rfl
  have e1 : (BitVec.ofInt 64 (x : Int)).toNat = x := by
    rw [BitVec.toNat_ofInt]
    omega
  have e2 : (BitVec.ofInt 64 2139095040).toNat = 2139095040 := by decide
  rw [BitVec.toNat_and, e1, e2]
  have d1 := Nat.div_add_mod (x &&& 2139095040) (2 ^ 23)
  have d2 : (x &&& 2139095040) % 2 ^ 23 = 0 := by
    rw [Nat.and_mod_two_pow, show 2139095040 % 2 ^ 23 = 0 by decide, Nat.and_zero]
  have d3 : (x &&& 2139095040) / 2 ^ 23 = x / 2 ^ 23 % 256 := by
    rw [Nat.and_div_two_pow, show 2139095040 / 2 ^ 23 = 2 ^ 8 - 1 by decide, Nat.and_two_pow_sub_one_eq_mod]
  rw [d2, d3] at d1
  have hle : x &&& 2139095040 ≤ 2139095040 := Nat.and_le_right
  generalize x &&& 2139095040 = z at *
  rw [i64_of (by omega) (by omega)]
  unfold isFin
  have hr : rung .f32 x = x % 2147483648 := rfl
  have hI : infOf .f32 = 2139095040 := rfl
  have hf := @fin_iff .f32 x
  rw [hr, hI] at hf
  have e3 : (2 : Nat) ^ 23 = 8388608 := by decide
  rw [e3] at d1
  by_cases e : (z : Int) = 2139095040
  · rw [e, bne_self_eq_false]
    cases h2 : Fl.fin .f32 x with
    | false => rfl
    | true => have := hf.1 h2; omega
  · rw [bne_iff_ne.2 e]
    exact (hf.2 (by omega)).symm
theorem wd_from_self {x : Nat} (h : Wd x) : fromV (x : Int) = x := by
  have hS : 2 * signOf .f32 = 4294967296 := rfl
  have := h.1
  unfold fromV
  rw [show IntKind.u32.wrap (x : Int) = x by rw [IntKind.wrap_u32]; omega, Int.toNat_natCast, h.2]
theorem inU_wd {x : Nat} (h : Wd x) : inU (x : Int) = true := by
  have hS : 2 * signOf .f32 = 4294967296 := rfl
  have := h.1
  unfold inU
  rw [d_t (by omega), d_t (by omega)]; rfl
theorem nan_wd {x : Nat} (h : Wd x) : ((x : Int) == 2143289344) = nan .f32 x := by
  rw [show ((x : Int) == 2143289344) = Nat.beq x 2143289344 from beq_lit x 2143289344]
  cases e : nan .f32 x with
  | true =>
    have := h.2
    rw [canon_nan e] at this
    exact nbeq_t this.symm
  | false =>
    refine nbeq_f fun c => ?_
    subst c
    exact absurd e (by decide)






--B bAtV List Int → Int → Int → Int
def bAtV (xs : List Int) (i n : Int) : Int := bif decide (n ≤ 1) then 0 else bif decide (i < (xs.length : Int)) then ((xs[i.toNat]?).getD 0).tmod n else (i * 37 + 11).tmod n

theorem bAt_range {xs : List Int} (hb : bytes xs) {i n : Int} (hi : 0 ≤ i) (hn : 1 ≤ n) : 0 ≤ bAtV xs i n ∧ bAtV xs i n < n := by
  unfold bAtV
  by_cases h1 : n ≤ 1
  · rw [d_t h1]; simp only [cond_true]; omega
  · rw [d_f h1]
    simp only [cond_false]
    by_cases h2 : i < (xs.length : Int)
    · rw [d_t h2]
      have hl : i.toNat < xs.length := by omega
      have := hb _ (List.getElem_mem hl)
      rw [get_lt hl]
      simp only [cond_true, Option.getD_some]
      exact ⟨Int.tmod_nonneg _ this.1, Int.tmod_lt_of_pos _ (by omega)⟩
    · rw [d_f h2]
      exact ⟨Int.tmod_nonneg _ (by omega), Int.tmod_lt_of_pos _ (by omega)⟩



end Go.Proofs.Ytfdalaakechldaa
