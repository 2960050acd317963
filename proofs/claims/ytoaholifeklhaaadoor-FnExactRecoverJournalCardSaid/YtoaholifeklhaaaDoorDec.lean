/- Decimal texts and check numbers. -/
import Derived.Test.YtoaholifeklhaaaDoorShapes
import Derived.Test.YtoaholifeklhaaaDoorLay
import Derived.Test.YtoaholifeklhaaaDoorEvBld
import Derived.Test.YtoaholifeklhaaaDoorEvNum
set_option linter.unusedVariables false
set_option linter.unusedSimpArgs false
set_option maxRecDepth 100000
namespace Go.Proofs.YtoaholifeklhaaaDoor
open Go.Ev
abbrev Str := List UInt8
theorem blt_big {m : Nat} (h : m ≤ 100000000) : Nat.blt m 9223372036854775808 = true := by rw [Nat.blt_eq]; omega

abbrev s_strconv_FormatInt : Sm := sFmt10
theorem ok_strconv_FormatInt : FnOk Tryd.prog 30 (sFmt10) := ok_Fmt10 Tryd.laysMn173 rfl (by kernel_rfl)
abbrev s_strings_Contains : Sm := sHas1
theorem ok_strings_Contains : FnOk Tryd.prog 15 (sHas1) := ok_Has1 Tryd.laysn144 rfl
abbrev s_strings_Builder_WriteString : Sm := sBWrite 36 5
theorem ok_strings_Builder_WriteString : FnOkL Tryd.prog 18 (sBWrite 36 5) := ok_BWrite Tryd.laysn166 Tryd.laysn166_X rfl rfl rfl
abbrev s_strings_Builder_String : Sm := sBString 36 5
theorem ok_strings_Builder_String : FnOkL Tryd.prog 20 (sBString 36 5) := ok_BString Tryd.laysn169 Tryd.laysn169_X rfl rfl rfl
abbrev s_strings_Builder_Len : Sm := sBLen 36 5
theorem ok_strings_Builder_Len : FnOkL Tryd.prog 16 (sBLen 36 5) := ok_BLen Tryd.laysn170 rfl rfl rfl

/-! plain -/
theorem toU8_append (a b : List Int) : toU8 (a ++ b) = toU8 a ++ toU8 b := by simp [toU8]
theorem itoa_digits (n : Nat) : itoaL n = Lib.decDigits n := Lib.itoa_nonneg n
theorem dig_lt {n : Nat} (h : n < 10) : Lib.decDigits n = [UInt8.ofNat (48 + n)] := by rw [Lib.decDigits, dif_pos h]
theorem dig_ge {n : Nat} (h : ¬ n < 10) : Lib.decDigits n = Lib.decDigits (n / 10) ++ [UInt8.ofNat (48 + n % 10)] := by rw [Lib.decDigits, dif_neg h]
theorem dig_pos (n : Nat) : 1 ≤ (Lib.decDigits n).length := by
  by_cases h : n < 10
  · rw [dig_lt h]; exact Nat.le_refl 1
  · rw [dig_ge h]; simp
theorem itoa_len {n : Int} (h : 0 ≤ n ∧ n < 65003) : 1 ≤ (itoaL n).length ∧ (itoaL n).length ≤ 21 := by
  obtain ⟨m, rfl⟩ : ∃ m : Nat, n = m := ⟨n.toNat, by omega⟩
  refine ⟨by rw [itoa_digits]; exact dig_pos m, ?_⟩
  exact Lib.itoa_length_le _ (by omega) (by omega)

/-! impl.Decimal -/
noncomputable def c_impl_Decimal : Ctx := mkC Tryd.prog tyT [(30, s_strconv_FormatInt)] [] [] 5 (fun _ => none) 0
theorem w_impl_Decimal (n : Int) (K : V → Heap → Prop) : wpFn c_impl_Decimal Tryd.f19 (encAs [.cell tI] (n, ())) [] K =
  K (.str (itoaL n)) [] := by kernel_rfl
noncomputable def s_impl_Decimal : Sm := semT [.cell tI] fun x => match x with | (n, _) => .str (itoaL n)
theorem ok_impl_Decimal : FnOk Tryd.prog 19 s_impl_Decimal := fnOk_typed (fnOk_runC (C := c_impl_Decimal) rfl mixed (.cons ok_strconv_FormatInt .nil) .nil .nil Tryd.func19 (by kernel_rfl)) fun (x : ((Int) × Unit)) wf K h => by
  obtain ⟨n, ⟨⟩⟩ := x
  replace h : K (.str (itoaL n)) [] := h
  rw [w_impl_Decimal n K]
  exact h

/-! spec.l01Dec -/
noncomputable def a_spec_l01Dec : Nat → Option Ann := fun n => bif Nat.beq n 3 then some ⟨[0,3,4],0,true⟩ else none
noncomputable def c_spec_l01Dec : Ctx := mkC Tryd.prog tyT [] [] [] 36 a_spec_l01Dec 0
noncomputable def fr_spec_l01Dec_3 (n r : Int) (ds : List Int) : Fr := [(0, .int .i64 n), (3, .obj 0 0), (4, .int .i64 r)]
noncomputable def hp_spec_l01Dec_3 (n r : Int) (ds : List Int) : Heap := [.sl 0 (.int .u8) ds]
theorem r_spec_l01Dec_3 (n r : Int) (ds : List Int) (Kn : Fr → Heap → Prop) (K : V → Heap → Prop) : round c_spec_l01Dec ⟨[0,3,4],0,true⟩ (lb c_spec_l01Dec 3 Tryd.f23) (fr_spec_l01Dec_3 n r ds) (hp_spec_l01Dec_3 n r ds) Kn (lk c_spec_l01Dec 3 Tryd.f23 [] K) =
  cond ((↑(List.length ds) : Int) == 0)
    (cond (decide (Int.tmod r 10 < 0))
      (cond (decide ((1 + List.length ds) * 1 ≤ 140737488355328))
        (Kn [(0, (.int .i64 (n))), (3, (.obj 0 0)), (4, (.int .i64 (IntKind.wrap IntKind.i64 (Int.tdiv r 10))))] [(.sl 0 (.int .u8) ([IntKind.wrap IntKind.u8 (IntKind.wrap IntKind.i64 (48 + IntKind.wrap IntKind.i64 (0 - Int.tmod r 10)))] ++ ds))])
        (False))
      (cond (decide ((1 + List.length ds) * 1 ≤ 140737488355328))
        (Kn [(0, (.int .i64 (n))), (3, (.obj 0 0)), (4, (.int .i64 (IntKind.wrap IntKind.i64 (Int.tdiv r 10))))] [(.sl 0 (.int .u8) ([IntKind.wrap IntKind.u8 (IntKind.wrap IntKind.i64 (48 + Int.tmod r 10))] ++ ds))])
        (False)))
    (cond (r != 0)
      (cond (decide (Int.tmod r 10 < 0))
        (cond (decide ((1 + List.length ds) * 1 ≤ 140737488355328))
          (Kn [(0, (.int .i64 (n))), (3, (.obj 0 0)), (4, (.int .i64 (IntKind.wrap IntKind.i64 (Int.tdiv r 10))))] [(.sl 0 (.int .u8) ([IntKind.wrap IntKind.u8 (IntKind.wrap IntKind.i64 (48 + IntKind.wrap IntKind.i64 (0 - Int.tmod r 10)))] ++ ds))])
          (False))
        (cond (decide ((1 + List.length ds) * 1 ≤ 140737488355328))
          (Kn [(0, (.int .i64 (n))), (3, (.obj 0 0)), (4, (.int .i64 (IntKind.wrap IntKind.i64 (Int.tdiv r 10))))] [(.sl 0 (.int .u8) ([IntKind.wrap IntKind.u8 (IntKind.wrap IntKind.i64 (48 + Int.tmod r 10))] ++ ds))])
          (False)))
      (cond (decide (n < 0))
        (cond (decide ((1 + List.length ds) * 1 ≤ 140737488355328))
          (K (.str (toU8 ([45] ++ ds))) [])
          (False))
        (K (.str (toU8 ds)) []))) := by kernel_rfl
theorem w_spec_l01Dec (n : Int) (K : V → Heap → Prop) : wpFn c_spec_l01Dec Tryd.f23 (encAs [.cell tI] (n, ())) [] K =
  LoopE c_spec_l01Dec ⟨[0, 3, 4], 0, true⟩ (lb c_spec_l01Dec 3 Tryd.f23) [(0, (.int .i64 (n))), (3, (.obj 0 0)), (4, (.int .i64 (n)))] [(.sl 0 (.int .u8) ([]))] (lk c_spec_l01Dec 3 Tryd.f23 [] K) := by kernel_rfl
noncomputable def s_spec_l01Dec : Sm := semG [.cell tI] (fun x => match x with | (n, _) => decide (0 ≤ n) && decide (n < 65003)) fun x => match x with | (n, _) => .str (itoaL n)
theorem ok_spec_l01Dec : FnOk Tryd.prog 23 s_spec_l01Dec := fnOk_typedG (fnOk_runC (C := c_spec_l01Dec) rfl mixed .nil .nil .nil Tryd.func23 (by kernel_rfl)) fun (x : ((Int) × Unit)) wf hg K h => by
  obtain ⟨n, ⟨⟩⟩ := x
  replace hg : (decide (0 ≤ n) && decide (n < 65003)) = true := hg
  replace h : K (.str (itoaL n)) [] := h
  rw [w_spec_l01Dec n K]
  simp only [Bool.and_eq_true, decide_eq_true_eq] at hg
  obtain ⟨m, rfl⟩ : ∃ m : Nat, n = m := ⟨n.toNat, by omega⟩
  rw [itoa_digits] at h
  refine loop_run (σ := List Int × Nat) (fun p => fr_spec_l01Dec_3 m p.2 []) (fun p => hp_spec_l01Dec_3 m 0 p.1) (fun p => p.2 ≤ m ∧ p.1.length + p.2 ≤ m + 1 ∧ ((p.1 = [] ∧ p.2 = m) ∨ (p.1 ≠ [] ∧ ((p.2 = 0 ∧ Lib.decDigits m = toU8 p.1) ∨ (0 < p.2 ∧ Lib.decDigits m = Lib.decDigits p.2 ++ toU8 p.1))))) (fun p => p.2 + (if p.1 = [] then 1 else 0)) ?_ ([], m) ⟨Nat.le_refl _, by simp only [List.length_nil]; omega, .inl ⟨rfl, rfl⟩⟩
  rintro ⟨ds, r⟩ ⟨hrm, hlen, hi⟩ Kn hk
  simp only at hrm hlen hi hk ⊢
  rw [show fr_spec_l01Dec_3 m r [] = fr_spec_l01Dec_3 m r ds from rfl, show hp_spec_l01Dec_3 m 0 ds = hp_spec_l01Dec_3 m r ds from rfl, r_spec_l01Dec_3 m r ds Kn K]
  have e1 : ((r : Int)).tmod 10 = ((r % 10 : Nat) : Int) := by rw [Int.tmod_eq_emod_of_nonneg (by omega)]; omega
  have e2 : ((r : Int)).tdiv 10 = ((r / 10 : Nat) : Int) := by rw [Int.tdiv_eq_ediv_of_nonneg (by omega)]; omega
  have e3 : IntKind.u8.wrap (IntKind.i64.wrap (48 + ((r % 10 : Nat) : Int))) = ((48 + r % 10 : Nat) : Int) := by
    rw [i64_of (by omega) (by omega), show IntKind.u8.wrap (48 + ((r % 10 : Nat) : Int)) = 48 + ((r % 10 : Nat) : Int) from wrap_of (by have : IntKind.u8.min = 0 := rfl; omega) (by have : IntKind.u8.max = 255 := rfl; omega)]
    omega
  have go : (ds = [] ∨ r ≠ 0) → Kn (fr_spec_l01Dec_3 m (r / 10 : Nat) []) (hp_spec_l01Dec_3 m 0 (((48 + r % 10 : Nat) : Int) :: ds)) := by
    intro hg2
    have hD : Lib.decDigits m = Lib.decDigits r ++ toU8 ds := by
      rcases hi with ⟨h1, h2⟩ | ⟨h1, ⟨h2, h3⟩ | ⟨h2, h3⟩⟩
      · subst h1 h2; simp [toU8]
      · rcases hg2 with h | h
        · exact absurd h h1
        · exact absurd h2 h
      · exact h3
    have hu : toU8 (((48 + r % 10 : Nat) : Int) :: ds) = UInt8.ofNat (48 + r % 10) :: toU8 ds := by
      have : (((48 + r % 10 : Nat) : Int) :: ds) = [((48 + r % 10 : Nat) : Int)] ++ ds := rfl
      rw [this, toU8_append]
      rfl
    have hr1 : ds = [] ∨ 1 ≤ r := hg2.imp id fun h => by omega
    refine hk (((48 + r % 10 : Nat) : Int) :: ds, r / 10) ⟨by simp only; omega, ?_, .inr ⟨by simp, ?_⟩⟩ ?_
    · simp only [List.length_cons]
      rcases hr1 with h | h
      · subst h; simp only [List.length_nil] at hlen ⊢; omega
      · omega
    · simp only
      by_cases h10 : r < 10
      · refine .inl ⟨by omega, ?_⟩
        rw [hD, hu, dig_lt h10, Nat.mod_eq_of_lt h10]
        rfl
      · refine .inr ⟨by omega, ?_⟩
        rw [hD, hu, dig_ge h10, List.append_assoc]
        rfl
    · simp only [reduceCtorEq, if_false]
      rcases hr1 with h | h
      · rw [if_pos h]; omega
      · omega
  rw [e1, e2, e3, d_f (show ¬ ((r % 10 : Nat) : Int) < 0 by omega), d_t (show (1 + ds.length) * 1 ≤ 140737488355328 by omega), i64_of (n := ((r / 10 : Nat) : Int)) (by omega) (by omega)]
  simp only [cond_true, cond_false]
  by_cases hds : ds = []
  · rw [show (((ds.length : Nat) : Int) == 0) = true by rw [hds]; rfl]
    exact go (.inl hds)
  · rw [show (((ds.length : Nat) : Int) == 0) = false from beq_eq_false_iff_ne.2 (by
      have : 0 < ds.length := List.length_pos_iff.2 hds
      omega)]
    by_cases hr0 : r = 0
    · rw [show (((r : Nat) : Int) != 0) = false by rw [hr0]; rfl, d_f (show ¬ ((m : Nat) : Int) < 0 by omega)]
      simp only [cond_false]
      rcases hi with ⟨h1, _⟩ | ⟨_, ⟨_, h3⟩ | ⟨h2, _⟩⟩
      · exact absurd h1 hds
      · rw [h3] at h; exact h
      · omega
    · rw [show (((r : Nat) : Int) != 0) = true from bne_iff_ne.2 (by omega)]
      exact go (.inr hr0)

/-! plain: the check number -/
--B checkN Int → List UInt8 → Int
def checkN (n : Int) (s : List UInt8) : Int := s.foldl (fun n c => (659 * n + (c.toNat : Int) + 29) % 65003) n
theorem checkN_range {n : Int} (h : 0 ≤ n ∧ n < 65003) (s : List UInt8) : 0 ≤ checkN n s ∧ checkN n s < 65003 := by
  induction s generalizing n with
  | nil => exact h
  | cons c s ih =>
    have e : (659 * n + (c.toNat : Int) + 29) % 65003 = (fun (n : Int) (c : UInt8) => (659 * n + (c.toNat : Int) + 29) % 65003) n c := rfl
    exact ih (by rw [← e]; omega)
theorem checkN_take (n : Int) {s : List UInt8} {i : Nat} (hi : i < s.length) : checkN n (s.take (i + 1)) = (659 * checkN n (s.take i) + ((s[i]'hi).toNat : Int) + 29) % 65003 := by
  unfold checkN
  rw [take_one hi, List.foldl_append]
  rfl

/-! impl.CheckOf -/
noncomputable def a_impl_CheckOf : Nat → Option Ann := fun n => bif Nat.beq n 4 then some ⟨[0,1,11,12],0,false⟩ else none
noncomputable def c_impl_CheckOf : Ctx := mkC Tryd.prog tyT [(28, s_impl_in)] [] [] 26 a_impl_CheckOf 0
noncomputable def fr_impl_CheckOf_4 (n : Int) (s : Str) (m i : Int) : Fr := [(0, .int .i64 n), (1, .str s), (11, .int .i64 m), (12, .int .i64 i)]
theorem r_impl_CheckOf_4 (n : Int) (s : Str) (m i : Int) (Kn : Fr → Heap → Prop) (K : V → Heap → Prop) : round c_impl_CheckOf ⟨[0,1,11,12],0,false⟩ (lb c_impl_CheckOf 4 Tryd.f17) (fr_impl_CheckOf_4 n s m i) [] Kn (lk c_impl_CheckOf 4 Tryd.f17 [] K) =
  cond (decide (i < m))
    (cond (decide (0 ≤ i))
      ((match s[Int.toNat i]? with
        | some b0 => Kn [(0, (.int .i64 (Int.tmod (IntKind.wrap IntKind.i64 (IntKind.wrap IntKind.i64 (IntKind.wrap IntKind.i64 (659 * n) + IntKind.wrap IntKind.i64 (↑(UInt8.toNat b0) : Int)) + 29)) 65003))), (1, (.str (s))), (11, (.int .i64 (m))), (12, (.int .i64 (IntKind.wrap IntKind.i64 (i + 1))))] []
        | none => False))
      (False))
    (K (.tuple [(.int .i64 (n)), (.bool true)]) []) := by kernel_rfl
theorem w_impl_CheckOf (n : Int) (s : Str) (K : V → Heap → Prop) : wpFn c_impl_CheckOf Tryd.f17 (encAs [.cell tI, .cell .str] (n, s, ())) [] K =
  cond (!inR n 0 65002)
    (K (.tuple [(.int .i64 0), (.bool false)]) [])
    (LoopE c_impl_CheckOf ⟨[0, 1, 11, 12], 0, false⟩ (lb c_impl_CheckOf 4 Tryd.f17) [(0, (.int .i64 (n))), (1, (.str (s))), (11, (.int .i64 ((↑(List.length s) : Int)))), (12, (.int .i64 0))] [] (lk c_impl_CheckOf 4 Tryd.f17 [] K)) := by kernel_rfl
noncomputable def s_impl_CheckOf : Sm := semG [.cell tI, .cell .str] (fun x => match x with | (n, s, _) => decide (0 ≤ n) && decide (n < 65003)) fun x => match x with | (n, s, _) => .tuple [.int .i64 (checkN n s), .bool true]
theorem ok_impl_CheckOf : FnOk Tryd.prog 17 s_impl_CheckOf := fnOk_typedG (fnOk_runC (C := c_impl_CheckOf) rfl mixed (.cons ok_impl_in .nil) .nil .nil Tryd.func17 (by kernel_rfl)) fun (x : ((Int) × (Str) × Unit)) wf hg K h => by
  obtain ⟨n, s, ⟨⟩⟩ := x
  replace hg : (decide (0 ≤ n) && decide (n < 65003)) = true := hg
  replace h : K (.tuple [.int .i64 (checkN n s), .bool true]) [] := h
  rw [w_impl_CheckOf n s K]
  simp only [Bool.and_eq_true, decide_eq_true_eq] at hg
  have wl := wf.2.1
  have wl : s.length ≤ 9223372036854775807 := wl
  rw [show inR n 0 65002 = true from inR_iff.2 (by omega)]
  simp only [Bool.not_true, cond_false]
  refine loop_run (σ := Nat) (fun i => fr_impl_CheckOf_4 (checkN n (s.take i)) s s.length i) (fun _ => []) (fun i => i ≤ s.length) (fun i => s.length - i) ?_ 0 (Nat.zero_le _)
  intro i hi Kn hk
  rw [r_impl_CheckOf_4 (checkN n (s.take i)) s s.length i Kn K]
  by_cases hlt : i < s.length
  · have hr := checkN_range hg (s.take i)
    have hc := (s[i]'hlt).toNat_lt
    simp only [d_lt hlt, d_0, cond_true, Int.toNat_natCast, get_lt hlt]
    rw [i64_of (n := 659 * checkN n (s.take i)) (by omega) (by omega), i64_of (n := (((s[i]'hlt).toNat : Nat) : Int)) (by omega) (by omega), i64_of (n := 659 * checkN n (s.take i) + (((s[i]'hlt).toNat : Nat) : Int)) (by omega) (by omega),
      i64_of (n := 659 * checkN n (s.take i) + (((s[i]'hlt).toNat : Nat) : Int) + 29) (by omega) (by omega), i64_of (n := (i : Int) + 1) (by omega) (by omega), Int.tmod_eq_emod_of_nonneg (by omega), ← checkN_take n hlt]
    exact hk (i + 1) hlt (by omega)
  · have : i = s.length := by omega
    subst this
    simp only [d_nlt hlt, cond_false, List.take_length]
    exact h

/-! spec.l01Check -/
noncomputable def a_spec_l01Check : Nat → Option Ann := fun n => bif Nat.beq n 2 then some ⟨[0,1,5],0,false⟩ else none
noncomputable def c_spec_l01Check : Ctx := mkC Tryd.prog tyT [] [] [] 22 a_spec_l01Check 0
noncomputable def fr_spec_l01Check_2 (n : Int) (s : Str) (i : Int) : Fr := [(0, .int .i64 n), (1, .str s), (5, .int .i64 i)]
theorem r_spec_l01Check_2 (n : Int) (s : Str) (i : Int) (Kn : Fr → Heap → Prop) (K : V → Heap → Prop) : round c_spec_l01Check ⟨[0,1,5],0,false⟩ (lb c_spec_l01Check 2 Tryd.f22) (fr_spec_l01Check_2 n s i) [] Kn (lk c_spec_l01Check 2 Tryd.f22 [] K) =
  cond (decide (i < (↑(List.length s) : Int)))
    (cond (decide (0 ≤ i))
      ((match s[Int.toNat i]? with
        | some b0 => Kn [(0, (.int .i64 (Int.tmod (IntKind.wrap IntKind.i64 (IntKind.wrap IntKind.i64 (IntKind.wrap IntKind.i64 (659 * n) + IntKind.wrap IntKind.i64 (↑(UInt8.toNat b0) : Int)) + 29)) 65003))), (1, (.str (s))), (5, (.int .i64 (IntKind.wrap IntKind.i64 (i + 1))))] []
        | none => False))
      (False))
    (K (.int .i64 (n)) []) := by kernel_rfl
theorem w_spec_l01Check (n : Int) (s : Str) (K : V → Heap → Prop) : wpFn c_spec_l01Check Tryd.f22 (encAs [.cell tI, .cell .str] (n, s, ())) [] K =
  LoopE c_spec_l01Check ⟨[0, 1, 5], 0, false⟩ (lb c_spec_l01Check 2 Tryd.f22) [(0, (.int .i64 (n))), (1, (.str (s))), (5, (.int .i64 0))] [] (lk c_spec_l01Check 2 Tryd.f22 [] K) := by kernel_rfl
noncomputable def s_spec_l01Check : Sm := semG [.cell tI, .cell .str] (fun x => match x with | (n, s, _) => decide (0 ≤ n) && decide (n < 65003)) fun x => match x with | (n, s, _) => .int .i64 (checkN n s)
theorem ok_spec_l01Check : FnOk Tryd.prog 22 s_spec_l01Check := fnOk_typedG (fnOk_runC (C := c_spec_l01Check) rfl mixed .nil .nil .nil Tryd.func22 (by kernel_rfl)) fun (x : ((Int) × (Str) × Unit)) wf hg K h => by
  obtain ⟨n, s, ⟨⟩⟩ := x
  replace hg : (decide (0 ≤ n) && decide (n < 65003)) = true := hg
  replace h : K (.int .i64 (checkN n s)) [] := h
  rw [w_spec_l01Check n s K]
  simp only [Bool.and_eq_true, decide_eq_true_eq] at hg
  have wl := wf.2.1
  have wl : s.length ≤ 9223372036854775807 := wl
  refine loop_run (σ := Nat) (fun i => fr_spec_l01Check_2 (checkN n (s.take i)) s i) (fun _ => []) (fun i => i ≤ s.length) (fun i => s.length - i) ?_ 0 (Nat.zero_le _)
  intro i hi Kn hk
  rw [r_spec_l01Check_2 (checkN n (s.take i)) s i Kn K]
  by_cases hlt : i < s.length
  · have hr := checkN_range hg (s.take i)
    have hc := (s[i]'hlt).toNat_lt
    simp only [d_lt hlt, d_0, cond_true, Int.toNat_natCast, get_lt hlt]
    rw [i64_of (n := 659 * checkN n (s.take i)) (by omega) (by omega), i64_of (n := (((s[i]'hlt).toNat : Nat) : Int)) (by omega) (by omega), i64_of (n := 659 * checkN n (s.take i) + (((s[i]'hlt).toNat : Nat) : Int)) (by omega) (by omega),
      i64_of (n := 659 * checkN n (s.take i) + (((s[i]'hlt).toNat : Nat) : Int) + 29) (by omega) (by omega), i64_of (n := (i : Int) + 1) (by omega) (by omega), Int.tmod_eq_emod_of_nonneg (by omega), ← checkN_take n hlt]
    exact hk (i + 1) hlt (by omega)
  · have : i = s.length := by omega
    subst this
    simp only [d_nlt hlt, cond_false, List.take_length]
    exact h

end Go.Proofs.YtoaholifeklhaaaDoor
