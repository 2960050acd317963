/- Journals. -/
import Derived.Test.YtobdbgdgingjjaaDoorDec
import Derived.Lib.IndexAny
set_option linter.unusedVariables false
set_option linter.unusedSimpArgs false
set_option maxRecDepth 100000
namespace Go.Proofs.YtobdbgdgingjjaaDoor
open Go.Ev

def hasNL (s : Str) : Bool := s.any fun c => c == 10
theorem hasNL_index (s : Str) : decide (0 ≤ indexB s 10) = hasNL s := by
  unfold indexB hasNL
  rw [← Lib.contains_iff_indexByte, List.contains_eq_any_beq]
  congr 1
  funext c
  rw [Bool.beq_comm]
theorem u8_eq (c : UInt8) (n : Nat) (h : n < 256) : (((c.toNat : Nat) : Int) == ((n : Nat) : Int)) = (c == UInt8.ofNat n) := by
  rw [beq_cast]
  by_cases e : c.toNat = n
  · have : c = UInt8.ofNat n := by rw [← e, UInt8.ofNat_toNat]
    rw [e, this]; simp
  · have : c ≠ UInt8.ofNat n := fun e' => e (by rw [e', show (UInt8.ofNat n).toNat = n by simp [UInt8.toNat_ofNat']; omega])
    rw [beq_eq_false_iff_ne.2 e, beq_eq_false_iff_ne.2 this]
def lineT (n : Int) (l : Str) : Str := ((itoaL n ++ [32]) ++ l) ++ [10]
def jStep (st : Int × Str) (l : Str) : Int × Str := (checkN st.1 l, st.2 ++ lineT (checkN st.1 l) l)
def jSt (ls : List Str) : Int × Str := ls.foldl jStep (0, [])
--B jText List (List UInt8) → List UInt8
def jText (ls : List Str) : Str := (jSt ls).2
def tot (ls : List Str) : Nat := (ls.map fun l => l.length + 3).sum
--B okJ List (List UInt8) → Bool
def okJ (ls : List Str) : Bool := !ls.any hasNL && decide ((jText ls).length ≤ 6000)
theorem jSt_take {ls : List Str} {i : Nat} (hi : i < ls.length) : jSt (ls.take (i + 1)) = jStep (jSt (ls.take i)) (ls[i]'hi) := by
  unfold jSt
  rw [take_one hi, List.foldl_append]
  rfl
theorem jSt_range (ls : List Str) : 0 ≤ (jSt ls).1 ∧ (jSt ls).1 < 65003 := by
  have key : ∀ (ls : List Str) (st : Int × Str), 0 ≤ st.1 ∧ st.1 < 65003 → 0 ≤ (ls.foldl jStep st).1 ∧ (ls.foldl jStep st).1 < 65003 := by
    intro ls
    induction ls with
    | nil => exact fun st h => h
    | cons l ls ih => exact fun st h => ih _ (checkN_range h l)
  exact key ls _ (by decide)
theorem jSt_mono (ls : List Str) (i : Nat) : (jText (ls.take i)).length ≤ (jText ls).length := by
  have key : ∀ (ls : List Str) (st : Int × Str), st.2.length ≤ (ls.foldl jStep st).2.length := by
    intro ls
    induction ls with
    | nil => exact fun st => Nat.le_refl _
    | cons l ls ih =>
      intro st
      refine Nat.le_trans ?_ (ih (jStep st l))
      simp only [jStep, List.length_append]
      omega
  have e : jSt ls = (ls.drop i).foldl jStep (jSt (ls.take i)) := by
    unfold jSt
    rw [← List.foldl_append, List.take_append_drop]
  unfold jText
  rw [e]
  exact key _ _
theorem line_len {n : Int} (h : 0 ≤ n ∧ n < 65003) (l : Str) : l.length + 3 ≤ (lineT n l).length ∧ (lineT n l).length ≤ l.length + 23 := by
  have := itoa_len h
  simp only [lineT, List.length_append, List.length_cons, List.length_nil]
  omega
theorem jText_succ {ls : List Str} {i : Nat} (hi : i < ls.length) : jText (ls.take (i + 1)) = jText (ls.take i) ++ lineT (checkN (jSt (ls.take i)).1 (ls[i]'hi)) (ls[i]'hi) := by
  unfold jText
  rw [jSt_take hi]
  rfl
theorem jText_len {ls : List Str} {i : Nat} (hi : i < ls.length) : (jText (ls.take i)).length + (ls[i]'hi).length + 3 ≤ (jText (ls.take (i + 1))).length ∧ (jText (ls.take (i + 1))).length ≤ (jText (ls.take i)).length + (ls[i]'hi).length + 23 := by
  have h := line_len (checkN_range (jSt_range (ls.take i)) (ls[i]'hi)) (ls[i]'hi)
  rw [jText_succ hi, List.length_append]
  omega
theorem tot_take {ls : List Str} {i : Nat} (hi : i < ls.length) : tot (ls.take (i + 1)) = tot (ls.take i) + ((ls[i]'hi).length + 3) := by
  unfold tot
  rw [take_one hi, List.map_append, List.sum_append]
  simp
theorem tot_le (ls : List Str) (i : Nat) : tot (ls.take i) ≤ tot ls := by
  unfold tot
  exact sum_le _ ls i
theorem tot_text (ls : List Str) : ∀ i, i ≤ ls.length → tot (ls.take i) ≤ (jText (ls.take i)).length ∧ (jText (ls.take i)).length ≤ 8 * tot (ls.take i)
  | 0, _ => by simp [tot, jText, jSt]
  | i + 1, h => by
    have hi : i < ls.length := by omega
    have := tot_text ls i (by omega)
    have h2 := jText_len hi
    rw [tot_take hi]
    omega
theorem okJ_long {ls : List Str} {i : Nat} (h : 6000 < (jText (ls.take i)).length) : okJ ls = false := by
  have := jSt_mono ls i
  unfold okJ
  rw [d_f (show ¬ (jText ls).length ≤ 6000 by omega), Bool.and_false]
theorem okJ_nl {ls : List Str} {i : Nat} (hi : i < ls.length) (h : hasNL (ls[i]'hi) = true) : okJ ls = false := by
  unfold okJ
  rw [List.any_eq_true.2 ⟨_, List.getElem_mem hi, h⟩]
  rfl

/-! impl.JournalOf -/
noncomputable def a_impl_JournalOf : Nat → Option Ann := fun n => bif Nat.beq n 3 then some ⟨[4,5,9,10,11],1,false⟩ else none
noncomputable def c_impl_JournalOf : Ctx := mkC Tryd.prog tyT [(33, s_strings_Contains), (35, s_impl_CheckOf), (37, s_impl_Decimal)] [] [(36, s_strings_Builder_WriteString), (38, s_strings_Builder_String), (34, s_strings_Builder_Len)] 43 a_impl_JournalOf 0
noncomputable def fr_impl_JournalOf_3 (l : List UInt8) (n : Int) (ls : List Str) (m i : Int) : Fr := [(4, .bptr 0), (5, .int .i64 n), (9, .vec .str ls), (10, .int .i64 m), (11, .int .i64 i)]
noncomputable def hp_impl_JournalOf_3 (l : List UInt8) (n : Int) (ls : List Str) (m i : Int) : Heap := [.bld 70 5 l]
theorem r_impl_JournalOf_3 (l : List UInt8) (n : Int) (ls : List Str) (m i : Int) (Kn : Fr → Heap → Prop) (K : V → Heap → Prop) : round c_impl_JournalOf ⟨[4,5,9,10,11],1,false⟩ (lb c_impl_JournalOf 3 Tryd.f11) (fr_impl_JournalOf_3 l n ls m i) (hp_impl_JournalOf_3 l n ls m i) Kn (lk c_impl_JournalOf 3 Tryd.f11 [] K) =
  cond (decide (i < m))
    (cond (decide (0 ≤ i))
      ((match ls[Int.toNat i]? with
        | some y0 => cond (decide ((↑(List.length y0) : Int) > 6000))
          (K (.tuple [(.str (Array.toList (ByteArray.data { data := #[] }))), (.bool false)]) [])
          (cond (decide (0 ≤ indexB y0 10))
            (K (.tuple [(.str (Array.toList (ByteArray.data { data := #[] }))), (.bool false)]) [])
            (cond (decide (List.length l ≤ 140737488355328))
              (cond (decide ((↑(List.length l) : Int) > 6000))
                (K (.tuple [(.str (Array.toList (ByteArray.data { data := #[] }))), (.bool false)]) [])
                (cond (decide (0 ≤ n) && decide (n < 65003))
                  (cond (Nat.blt (List.length (itoaL (checkN n y0)) + 1) 9223372036854775808)
                    (cond (Nat.blt (List.length (itoaL (checkN n y0) ++ Array.toList (ByteArray.data { data := #[32] })) + List.length y0) 9223372036854775808)
                      (cond (Nat.blt (List.length (itoaL (checkN n y0) ++ Array.toList (ByteArray.data { data := #[32] }) ++ y0) + 1) 9223372036854775808)
                        (cond (decide (List.length l + List.length (itoaL (checkN n y0) ++ Array.toList (ByteArray.data { data := #[32] }) ++ y0 ++ Array.toList (ByteArray.data { data := #[10] })) ≤ 140737488355328))
                          (Kn [(4, (.bptr 0)), (5, (.int .i64 (checkN n y0))), (9, (.vec .str (ls))), (10, (.int .i64 (m))), (11, (.int .i64 (IntKind.wrap IntKind.i64 (i + 1))))] [(.bld 70 5 (l ++ (itoaL (checkN n y0) ++ Array.toList (ByteArray.data { data := #[32] }) ++ y0 ++ Array.toList (ByteArray.data { data := #[10] }))))])
                          (False))
                        (False))
                      (False))
                    (False))
                  (False)))
              (False)))
        | none => False))
      (False))
    (cond (decide (List.length l ≤ 140737488355328))
      (cond (decide ((↑(List.length l) : Int) > 6000))
        (K (.tuple [(.str (Array.toList (ByteArray.data { data := #[] }))), (.bool false)]) [])
        (cond (decide (List.length l ≤ 140737488355328))
          (K (.tuple [(.str (l)), (.bool true)]) [])
          (False)))
      (False)) := by kernel_rfl
theorem w_impl_JournalOf (ls : List Str) (K : V → Heap → Prop) : wpFn c_impl_JournalOf Tryd.f11 (encAs [.cell (.slice .str)] (ls, ())) [] K =
  LoopE c_impl_JournalOf ⟨[4, 5, 9, 10, 11], 1, false⟩ (lb c_impl_JournalOf 3 Tryd.f11) [(4, (.bptr 0)), (5, (.int .i64 0)), (9, (.vec .str (ls))), (10, (.int .i64 ((↑(List.length ls) : Int)))), (11, (.int .i64 0))] [(.bld 70 5 ([]))] (lk c_impl_JournalOf 3 Tryd.f11 [] K) := by kernel_rfl
noncomputable def s_impl_JournalOf : Sm := semT [.cell (.slice .str)] fun x => match x with | (ls, _) => .tuple [.str (bif okJ ls then jText ls else []), .bool (okJ ls)]
theorem ok_impl_JournalOf : FnOk Tryd.prog 11 s_impl_JournalOf := fnOk_typed (fnOk_runC (C := c_impl_JournalOf) rfl mixed (.cons ok_strings_Contains (.cons ok_impl_CheckOf (.cons ok_impl_Decimal .nil))) .nil (.cons ok_strings_Builder_WriteString (.cons ok_strings_Builder_String (.cons ok_strings_Builder_Len .nil))) Tryd.func11 (by kernel_rfl)) fun (x : ((List Str) × Unit)) wf K h => by
  obtain ⟨ls, ⟨⟩⟩ := x
  replace h : K (.tuple [.str (bif okJ ls then jText ls else []), .bool (okJ ls)]) [] := h
  rw [w_impl_JournalOf ls K]
  obtain ⟨⟨wl, _⟩, _⟩ := wf
  have wl : ls.length ≤ 9223372036854775807 := wl
  refine loop_run (σ := Nat) (fun i => fr_impl_JournalOf_3 [] (jSt (ls.take i)).1 ls ls.length i) (fun i => hp_impl_JournalOf_3 (jText (ls.take i)) 0 ls ls.length 0) (fun i => i ≤ ls.length ∧ (ls.take i).any hasNL = false ∧ (jText (ls.take i)).length ≤ 20000) (fun i => ls.length - i) ?_ 0 ⟨Nat.zero_le _, rfl, by simp [jText, jSt]⟩
  intro i hi Kn hk
  have hrr := jSt_range (ls.take i)
  generalize hn : (jSt (ls.take i)).1 = n at *
  rw [show fr_impl_JournalOf_3 [] n ls ls.length i = fr_impl_JournalOf_3 (jText (ls.take i)) n ls ls.length i from rfl, show hp_impl_JournalOf_3 (jText (ls.take i)) 0 ls ls.length 0 = hp_impl_JournalOf_3 (jText (ls.take i)) n ls ls.length i from rfl, r_impl_JournalOf_3 (jText (ls.take i)) n ls ls.length i Kn K]
  by_cases hlt : i < ls.length
  · simp only [d_lt hlt, d_0, cond_true, Int.toNat_natCast, get_lt hlt]
    have hjl := jText_len hlt
    have hjs := jText_succ hlt
    have hst := jSt_take hlt
    have no : okJ ls = false → K (.tuple [.str [], .bool false]) [] := fun e => by rw [e] at h; exact h
    have noL : 6000 < (jText (ls.take i)).length → K (.tuple [.str [], .bool false]) [] := fun e => no (okJ_long e)
    have noL' : 6000 < (ls[i]'hlt).length → K (.tuple [.str [], .bool false]) [] := fun e => no (okJ_long (i := i + 1) (by omega))
    have noN : hasNL (ls[i]'hlt) = true → K (.tuple [.str [], .bool false]) [] := fun e => no (okJ_nl hlt e)
    have next := fun (e : hasNL (ls[i]'hlt) = false) (e2 : (jText (ls.take (i + 1))).length ≤ 20000) => hk (i + 1) ⟨hlt, any_snoc (f := hasNL) hlt hi.2.1 e, e2⟩ (by omega)
    rw [hst, hjs] at next
    rw [hjs] at hjl
    unfold jStep at next
    rw [hn] at next hjl
    simp only at next
    generalize ls[i]'hlt = y at *
    have hcr := checkN_range hrr y
    have hil := itoa_len hcr
    have hll := line_len hcr y
    have b1 : Nat.blt ((itoaL (checkN n y)).length + 1) 9223372036854775808 = true := blt_big (by omega)
    rw [hasNL_index]
    by_cases hy : y.length ≤ 6000
    · have b2 : Nat.blt ((itoaL (checkN n y) ++ [32]).length + y.length) 9223372036854775808 = true := blt_big (by simp only [List.length_append, List.length_cons, List.length_nil]; omega)
      have b3 : Nat.blt (((itoaL (checkN n y) ++ [32]) ++ y).length + 1) 9223372036854775808 = true := blt_big (by simp only [List.length_append, List.length_cons, List.length_nil]; omega)
      rw [d_f (show ¬ ((y.length : Nat) : Int) > 6000 by omega)]
      simp only [cond_false]
      cases e : hasNL y with
      | true => exact noN e
      | false =>
        simp only [cond_false]
        rw [d_t (show (jText (ls.take i)).length ≤ 140737488355328 by omega)]
        simp only [cond_true]
        by_cases hl : (jText (ls.take i)).length ≤ 6000
        · have nx := next e (by rw [List.length_append] at hjl ⊢; omega)
          rw [d_f (show ¬ (((jText (ls.take i)).length : Nat) : Int) > 6000 by omega), d_t hrr.1, d_t hrr.2]
          simp only [Bool.and_self, cond_true, cond_false]
          rw [i64_of (n := (i : Int) + 1) (by omega) (by omega)]
          change cond (Nat.blt ((itoaL (checkN n y)).length + 1) 9223372036854775808) (cond (Nat.blt ((itoaL (checkN n y) ++ [32]).length + y.length) 9223372036854775808) (cond (Nat.blt (((itoaL (checkN n y) ++ [32]) ++ y).length + 1) 9223372036854775808) (cond (decide ((jText (ls.take i)).length + (lineT (checkN n y) y).length ≤ 140737488355328)) (Kn _ _) False) False) False) False
          rw [b1, b2, b3, d_t (show (jText (ls.take i)).length + (lineT (checkN n y) y).length ≤ 140737488355328 by omega)]
          exact nx
        · rw [d_t (show (((jText (ls.take i)).length : Nat) : Int) > 6000 by omega)]
          exact noL (by omega)
    · rw [d_t (show ((y.length : Nat) : Int) > 6000 by omega)]
      exact noL' (by omega)
  · have : i = ls.length := by omega
    subst this
    simp only [d_nlt hlt, cond_false]
    have h1 := hi.2.1
    have h2 := hi.2.2
    rw [List.take_length] at h1 h2 ⊢
    have hok : okJ ls = decide ((jText ls).length ≤ 6000) := by unfold okJ; rw [h1]; rfl
    rw [hok] at h
    simp only [d_t (show (jText ls).length ≤ 140737488355328 by omega), cond_true]
    by_cases hgt : (jText ls).length ≤ 6000
    · rw [d_t hgt] at h
      rw [d_f (show ¬ (((jText ls).length : Nat) : Int) > 6000 by omega)]
      exact h
    · rw [d_f hgt] at h
      rw [d_t (show (((jText ls).length : Nat) : Int) > 6000 by omega)]
      exact h

/-! spec.l11Journal -/
noncomputable def a_spec_l11Journal : Nat → Option Ann := fun n => bif Nat.beq n 4 then some ⟨[0,3,4,5],0,false⟩ else none
noncomputable def c_spec_l11Journal : Ctx := mkC Tryd.prog tyT [(40, s_spec_l01Check), (41, s_spec_l01Dec)] [] [] 30 a_spec_l11Journal 0
noncomputable def fr_spec_l11Journal_4 (ls : List Str) (out : List UInt8) (n i : Int) : Fr := [(0, .vec .str ls), (3, .str out), (4, .int .i64 n), (5, .int .i64 i)]
theorem r_spec_l11Journal_4 (ls : List Str) (out : List UInt8) (n i : Int) (Kn : Fr → Heap → Prop) (K : V → Heap → Prop) : round c_spec_l11Journal ⟨[0,3,4,5],0,false⟩ (lb c_spec_l11Journal 4 Tryd.f32) (fr_spec_l11Journal_4 ls out n i) [] Kn (lk c_spec_l11Journal 4 Tryd.f32 [] K) =
  cond (decide (i < (↑(List.length ls) : Int)))
    (cond (decide (0 ≤ i))
      ((match ls[Int.toNat i]? with
        | some y0 => cond (decide (0 ≤ n) && decide (n < 65003))
          (cond (decide (0 ≤ checkN n y0) && decide (checkN n y0 < 65003))
            (cond (Nat.blt (List.length (itoaL (checkN n y0)) + 1) 9223372036854775808)
              (cond (decide (0 ≤ i))
                ((match ls[Int.toNat i]? with
                  | some y1 => cond (Nat.blt (List.length (itoaL (checkN n y0) ++ Array.toList (ByteArray.data { data := #[32] })) + List.length y1) 9223372036854775808)
                    (cond (Nat.blt (List.length (itoaL (checkN n y0) ++ Array.toList (ByteArray.data { data := #[32] }) ++ y1) + 1) 9223372036854775808)
                      (cond (Nat.blt (List.length out + List.length (itoaL (checkN n y0) ++ Array.toList (ByteArray.data { data := #[32] }) ++ y1 ++ Array.toList (ByteArray.data { data := #[10] }))) 9223372036854775808)
                        (Kn [(0, (.vec .str (ls))), (3, (.str (out ++ (itoaL (checkN n y0) ++ Array.toList (ByteArray.data { data := #[32] }) ++ y1 ++ Array.toList (ByteArray.data { data := #[10] }))))), (4, (.int .i64 (checkN n y0))), (5, (.int .i64 (IntKind.wrap IntKind.i64 (i + 1))))] [])
                        (False))
                      (False))
                    (False)
                  | none => False))
                (False))
              (False))
            (False))
          (False)
        | none => False))
      (False))
    (K (.str (out)) []) := by kernel_rfl
theorem w_spec_l11Journal (ls : List Str) (K : V → Heap → Prop) : wpFn c_spec_l11Journal Tryd.f32 (encAs [.cell (.slice .str)] (ls, ())) [] K =
  LoopE c_spec_l11Journal ⟨[0, 3, 4, 5], 0, false⟩ (lb c_spec_l11Journal 4 Tryd.f32) [(0, (.vec .str (ls))), (3, (.str (Array.toList (ByteArray.data { data := #[] })))), (4, (.int .i64 0)), (5, (.int .i64 0))] [] (lk c_spec_l11Journal 4 Tryd.f32 [] K) := by kernel_rfl
noncomputable def s_spec_l11Journal : Sm := semG [.cell (.slice .str)] (fun x => match x with | (ls, _) => decide (tot ls ≤ 6000)) fun x => match x with | (ls, _) => .str (jText ls)
theorem ok_spec_l11Journal : FnOk Tryd.prog 32 s_spec_l11Journal := fnOk_typedG (fnOk_runC (C := c_spec_l11Journal) rfl mixed (.cons ok_spec_l01Check (.cons ok_spec_l01Dec .nil)) .nil .nil Tryd.func32 (by kernel_rfl)) fun (x : ((List Str) × Unit)) wf hg K h => by
  obtain ⟨ls, ⟨⟩⟩ := x
  replace hg : (decide (tot ls ≤ 6000)) = true := hg
  replace h : K (.str (jText ls)) [] := h
  rw [w_spec_l11Journal ls K]
  have hg := of_decide_eq_true hg
  obtain ⟨⟨wl, _⟩, _⟩ := wf
  have wl : ls.length ≤ 9223372036854775807 := wl
  refine loop_run (σ := Nat) (fun i => fr_spec_l11Journal_4 ls (jText (ls.take i)) (jSt (ls.take i)).1 i) (fun i => []) (fun i => i ≤ ls.length) (fun i => ls.length - i) ?_ 0 (Nat.zero_le _)
  intro i hi Kn hk
  have hrr := jSt_range (ls.take i)
  rw [r_spec_l11Journal_4 ls (jText (ls.take i)) (jSt (ls.take i)).1 i Kn K]
  by_cases hlt : i < ls.length
  · simp only [d_lt hlt, d_0, cond_true, Int.toNat_natCast, get_lt hlt]
    have hst := jSt_take hlt
    have hjs := jText_succ hlt
    have ht := (tot_text ls i hi).2
    have ht2 := tot_le ls i
    have ht3 := tot_le ls (i + 1)
    rw [tot_take hlt] at ht3
    have next := hk (i + 1) hlt (by omega)
    rw [hst, hjs] at next
    unfold jStep at next
    simp only at next
    generalize ls[i]'hlt = y at *
    generalize (jSt (ls.take i)).1 = n at *
    have hcr := checkN_range hrr y
    have hil := itoa_len hcr
    have hll := line_len hcr y
    rw [d_t hrr.1, d_t hrr.2, d_t hcr.1, d_t hcr.2]
    simp only [Bool.and_self, cond_true]
    rw [i64_of (n := (i : Int) + 1) (by omega) (by omega)]
    have b1 : Nat.blt ((itoaL (checkN n y)).length + 1) 9223372036854775808 = true := blt_big (by omega)
    have b2 : Nat.blt ((itoaL (checkN n y) ++ [32]).length + y.length) 9223372036854775808 = true := blt_big (by simp only [List.length_append, List.length_cons, List.length_nil]; omega)
    have b3 : Nat.blt (((itoaL (checkN n y) ++ [32]) ++ y).length + 1) 9223372036854775808 = true := blt_big (by simp only [List.length_append, List.length_cons, List.length_nil]; omega)
    have b4 : Nat.blt ((jText (ls.take i)).length + (lineT (checkN n y) y).length) 9223372036854775808 = true := blt_big (by omega)
    change cond (Nat.blt ((itoaL (checkN n y)).length + 1) 9223372036854775808) (cond (Nat.blt ((itoaL (checkN n y) ++ [32]).length + y.length) 9223372036854775808) (cond (Nat.blt (((itoaL (checkN n y) ++ [32]) ++ y).length + 1) 9223372036854775808) (cond (Nat.blt ((jText (ls.take i)).length + (lineT (checkN n y) y).length) 9223372036854775808) (Kn _ _) False) False) False) False
    rw [b1, b2, b3, b4]
    exact next
  · have : i = ls.length := by omega
    subst this
    simp only [d_nlt hlt, cond_false, List.take_length]
    exact h

/-! spec.JournalOf -/
noncomputable def a_spec_JournalOf : Nat → Option Ann := fun n => bif Nat.beq n 3 then some ⟨[0,4,5],0,false⟩ else bif Nat.beq n 9 then some ⟨[0,4,5,6],0,false⟩ else none
noncomputable def c_spec_JournalOf : Ctx := mkC Tryd.prog tyT [(32, s_spec_l11Journal)] [] [] 46 a_spec_JournalOf 0
noncomputable def fr_spec_JournalOf_3 (ls : List Str) (n i : Int) : Fr := [(0, .vec .str ls), (4, .int .i64 n), (5, .int .i64 i)]
theorem r_spec_JournalOf_3 (ls : List Str) (n i : Int) (Kn : Fr → Heap → Prop) (K : V → Heap → Prop) : round c_spec_JournalOf ⟨[0,4,5],0,false⟩ (lb c_spec_JournalOf 3 Tryd.f9) (fr_spec_JournalOf_3 ls n i) [] Kn (lk c_spec_JournalOf 3 Tryd.f9 [] K) =
  cond (decide (i < (↑(List.length ls) : Int)))
    (cond (decide (0 ≤ i))
      ((match ls[Int.toNat i]? with
        | some y0 => cond (decide (IntKind.wrap IntKind.i64 (n + IntKind.wrap IntKind.i64 ((↑(List.length y0) : Int) + 3)) > 6000))
          (K (.tuple [(.str (Array.toList (ByteArray.data { data := #[] }))), (.bool false)]) [])
          (LoopE c_spec_JournalOf ⟨[0, 4, 5, 6], 0, false⟩ (pathB c_spec_JournalOf [3, 9] (bodyOf Tryd.f9)) [(0, (.vec .str (ls))), (4, (.int .i64 (IntKind.wrap IntKind.i64 (n + IntKind.wrap IntKind.i64 ((↑(List.length y0) : Int) + 3))))), (5, (.int .i64 (i))), (6, (.int .i64 0))] [] (pathK c_spec_JournalOf [(3, ⟨[0,4,5],0,false⟩, Kn)] 9 (bodyOf Tryd.f9) (kFn c_spec_JournalOf Tryd.f9 [] K)))
        | none => False))
      (False))
    (cond (decide (tot ls ≤ 6000))
      (cond (decide ((↑(List.length (jText ls)) : Int) > 6000))
        (K (.tuple [(.str (Array.toList (ByteArray.data { data := #[] }))), (.bool false)]) [])
        (K (.tuple [(.str (jText ls)), (.bool true)]) []))
      (False)) := by kernel_rfl
noncomputable def fr_spec_JournalOf_9 (ls : List Str) (n i j : Int) : Fr := [(0, .vec .str ls), (4, .int .i64 n), (5, .int .i64 i), (6, .int .i64 j)]
theorem r_spec_JournalOf_9 (ls : List Str) (n i j : Int) (Kn3 : Fr → Heap → Prop) (Kn : Fr → Heap → Prop) (K : V → Heap → Prop) : round c_spec_JournalOf ⟨[0,4,5,6],0,false⟩ (pathB c_spec_JournalOf [3, 9] (bodyOf Tryd.f9)) (fr_spec_JournalOf_9 ls n i j) [] Kn (pathK c_spec_JournalOf [(3, ⟨[0,4,5],0,false⟩, Kn3)] 9 (bodyOf Tryd.f9) (kFn c_spec_JournalOf Tryd.f9 [] K)) =
  cond (decide (0 ≤ i))
    ((match ls[Int.toNat i]? with
      | some y0 => cond (decide (j < (↑(List.length y0) : Int)))
        (cond (decide (0 ≤ i))
          ((match ls[Int.toNat i]? with
            | some y1 => cond (decide (0 ≤ j))
              ((match y1[Int.toNat j]? with
                | some b2 => cond ((↑(UInt8.toNat b2) : Int) == 10)
                  (K (.tuple [(.str (Array.toList (ByteArray.data { data := #[] }))), (.bool false)]) [])
                  (Kn [(0, (.vec .str (ls))), (4, (.int .i64 (n))), (5, (.int .i64 (i))), (6, (.int .i64 (IntKind.wrap IntKind.i64 (j + 1))))] [])
                | none => False))
              (False)
            | none => False))
          (False))
        (Kn3 [(0, (.vec .str (ls))), (4, (.int .i64 (n))), (5, (.int .i64 (IntKind.wrap IntKind.i64 (i + 1))))] [])
      | none => False))
    (False) := by kernel_rfl
theorem w_spec_JournalOf (ls : List Str) (K : V → Heap → Prop) : wpFn c_spec_JournalOf Tryd.f9 (encAs [.cell (.slice .str)] (ls, ())) [] K =
  LoopE c_spec_JournalOf ⟨[0, 4, 5], 0, false⟩ (lb c_spec_JournalOf 3 Tryd.f9) [(0, (.vec .str (ls))), (4, (.int .i64 0)), (5, (.int .i64 0))] [] (lk c_spec_JournalOf 3 Tryd.f9 [] K) := by kernel_rfl
noncomputable def s_spec_JournalOf : Sm := semG [.cell (.slice .str)] (fun x => match x with | (ls, _) => decide (wList List.length ls ≤ 1048576)) fun x => match x with | (ls, _) => .tuple [.str (bif okJ ls then jText ls else []), .bool (okJ ls)]
theorem ok_spec_JournalOf : FnOk Tryd.prog 9 s_spec_JournalOf := fnOk_typedG (fnOk_runC (C := c_spec_JournalOf) rfl mixed (.cons ok_spec_l11Journal .nil) .nil .nil Tryd.func9 (by kernel_rfl)) fun (x : ((List Str) × Unit)) wf hg K h => by
  obtain ⟨ls, ⟨⟩⟩ := x
  replace hg : (decide (wList List.length ls ≤ 1048576)) = true := hg
  replace h : K (.tuple [.str (bif okJ ls then jText ls else []), .bool (okJ ls)]) [] := h
  rw [w_spec_JournalOf ls K]
  have hg := of_decide_eq_true hg
  have wl := wList_ge List.length ls
  refine loop_run (σ := Nat) (fun i => fr_spec_JournalOf_3 ls (tot (ls.take i) : Nat) i) (fun i => []) (fun i => i ≤ ls.length ∧ tot (ls.take i) ≤ 6000 ∧ (ls.take i).any hasNL = false) (fun i => ls.length - i) ?_ 0 ⟨Nat.zero_le _, by simp [tot], rfl⟩
  intro i hi Kn3 hk3
  rw [r_spec_JournalOf_3 ls (tot (ls.take i) : Nat) i Kn3 K]
  by_cases hlt : i < ls.length
  · simp only [d_lt hlt, d_0, cond_true, Int.toNat_natCast, get_lt hlt]
    have htt := tot_take hlt
    have no : okJ ls = false → K (.tuple [.str [], .bool false]) [] := fun e => by rw [e] at h; exact h
    have hlen : (ls[i]'hlt).length ≤ 1048576 := by
      have := mem_le List.length (List.getElem_mem hlt)
      unfold wList at hg
      omega
    rw [i64_of (n := (((ls[i]'hlt).length : Nat) : Int) + 3) (by omega) (by omega), i64_of (n := ((tot (ls.take i) : Nat) : Int) + ((((ls[i]'hlt).length : Nat) : Int) + 3)) (by omega) (by omega),
      show ((tot (ls.take i) : Nat) : Int) + ((((ls[i]'hlt).length : Nat) : Int) + 3) = ((tot (ls.take (i + 1)) : Nat) : Int) by omega]
    by_cases h6 : tot (ls.take (i + 1)) ≤ 6000
    · rw [d_f (show ¬ ((tot (ls.take (i + 1)) : Nat) : Int) > 6000 by omega)]
      simp only [cond_false]
      refine loop_run (σ := Nat) (fun j => fr_spec_JournalOf_9 ls (tot (ls.take (i + 1)) : Nat) i j) (fun i => []) (fun j => j ≤ (ls[i]'hlt).length ∧ ((ls[i]'hlt).take j).any (fun c => c == 10) = false) (fun j => (ls[i]'hlt).length - j) ?_ 0 ⟨Nat.zero_le _, rfl⟩
      intro j hj Kn hk
      rw [r_spec_JournalOf_9 ls (tot (ls.take (i + 1)) : Nat) i j Kn3 Kn K]
      simp only [d_0, cond_true, Int.toNat_natCast, get_lt hlt]
      by_cases hjl : j < (ls[i]'hlt).length
      · simp only [d_lt hjl, cond_true, get_lt hjl]
        rw [show ((((((ls[i]'hlt)[j]'hjl).toNat : Nat) : Int)) == 10) = ((ls[i]'hlt)[j]'hjl == 10) from u8_eq _ 10 (by decide), i64_of (n := (j : Int) + 1) (by omega) (by omega)]
        cases e : ((ls[i]'hlt)[j]'hjl == 10) with
        | true => exact no (okJ_nl hlt (List.any_eq_true.2 ⟨_, List.getElem_mem hjl, e⟩))
        | false => exact hk (j + 1) ⟨hjl, any_snoc (f := fun c : UInt8 => c == 10) hjl hj.2 e⟩ (by omega)
      · have : j = (ls[i]'hlt).length := by omega
        subst this
        simp only [d_nlt hjl, cond_false]
        have h2 := hj.2
        rw [List.take_length] at h2
        rw [i64_of (n := (i : Int) + 1) (by omega) (by omega)]
        exact hk3 (i + 1) ⟨hlt, h6, any_snoc (f := hasNL) hlt hi.2.2 h2⟩ (by omega)
    · rw [d_t (show ((tot (ls.take (i + 1)) : Nat) : Int) > 6000 by omega)]
      have := (tot_text ls (i + 1) hlt).1
      exact no (okJ_long (i := i + 1) (by omega))
  · have : i = ls.length := by omega
    subst this
    simp only [d_nlt hlt, cond_false]
    have h1 := hi.2.2
    have h2 := hi.2.1
    rw [List.take_length] at h1 h2
    have hok : okJ ls = decide ((jText ls).length ≤ 6000) := by unfold okJ; rw [h1]; rfl
    rw [hok] at h
    simp only [d_t h2, cond_true]
    by_cases hgt : (jText ls).length ≤ 6000
    · rw [d_t hgt] at h
      rw [d_f (show ¬ (((jText ls).length : Nat) : Int) > 6000 by omega)]
      exact h
    · rw [d_f hgt] at h
      rw [d_t (show (((jText ls).length : Nat) : Int) > 6000 by omega)]
      exact h

/-! laws.FnExactJournalOf -/
noncomputable def c_laws_FnExactJournalOf : Ctx := mkC Tryd.prog tyT [(8, s_laws_szStringS), (10, s_laws_toStringS), (9, s_spec_JournalOf), (11, s_impl_JournalOf), (12, s_laws_eqStringS)] [] [] 40 (fun _ => none) 0
theorem w_laws_FnExactJournalOf (s : List Str) (K : V → Heap → Prop) : wpFn c_laws_FnExactJournalOf Tryd.f3 (encAs [.cell (.slice .str)] (s, ())) [] K =
  cond (decide (szV 1048576 (wList List.length s) < 0))
    (K (.bool true) [])
    (cond (decide (List.length s ≤ 1048576))
      (cond (decide (wList List.length s ≤ 1048576))
        (cond (decide (List.length s ≤ 1048576))
          (cond (!bytesEq (bif okJ s then jText s else []) (bif okJ s then jText s else []))
            (K (.bool false) [])
            (cond (okJ s != okJ s)
              (K (.bool false) [])
              (cond (decide (List.length s ≤ 1048576))
                (cond (s == s)
                  (K (.bool true) [])
                  (False))
                (False))))
          (False))
        (False))
      (False)) := by kernel_rfl
noncomputable def s_laws_FnExactJournalOf : Sm := semT [.cell (.slice .str)] fun x => match x with | (s, _) => .bool true
theorem ok_laws_FnExactJournalOf : FnOk Tryd.prog 3 s_laws_FnExactJournalOf := fnOk_typed (fnOk_runC (C := c_laws_FnExactJournalOf) rfl mixed (.cons ok_laws_szStringS (.cons ok_laws_toStringS (.cons ok_spec_JournalOf (.cons ok_impl_JournalOf (.cons ok_laws_eqStringS .nil))))) .nil .nil Tryd.func3 (by kernel_rfl)) fun (x : ((List Str) × Unit)) wf K h => by
  obtain ⟨s, ⟨⟩⟩ := x
  replace h : K (.bool true) [] := h
  rw [w_laws_FnExactJournalOf s K]
  by_cases h1 : (1048576 : Int) - (wList List.length s : Int) < 0
  · simp only [szV_no h1]
    exact h
  · have e1 : szV 1048576 (wList List.length s) = 1048576 - wList List.length s := szV_ok (by omega)
    have := wList_ge List.length s
    simp only [e1, d_f h1, cond_false, d_t (show s.length ≤ 1048576 by omega), d_t (show wList List.length s ≤ 1048576 by omega), cond_true, bne_self_eq_false, beq_self_eq_true, bytesEq, Bool.not_true]
    exact h

end Go.Proofs.YtobdbgdgingjjaaDoor
