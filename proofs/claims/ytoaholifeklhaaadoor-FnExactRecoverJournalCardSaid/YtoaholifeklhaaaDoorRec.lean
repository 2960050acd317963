/- Journals that are recovered. -/
import Derived.Test.YtoaholifeklhaaaDoorDec
import Derived.Test.YtoaholifeklhaaaDoorEvStr
import Derived.Lib.IndexBytes
set_option linter.unusedVariables false
set_option linter.unusedSimpArgs false
set_option maxRecDepth 100000
namespace Go.Proofs.YtoaholifeklhaaaDoor
open Go.Ev

abbrev s_strings_IndexByte : Sm := sIdx1
theorem ok_strings_IndexByte : FnOk Tryd.prog 24 (sIdx1) := ok_Idx1 Tryd.laysn137 rfl
abbrev s_strings_Cut : Sm := sCut1
theorem ok_strings_Cut : FnOk Tryd.prog 25 (sCut1) := ok_Cut1 Tryd.laysn145 rfl rfl rfl

/-! plain: places of a byte -/
theorem u8_eq (c : UInt8) (n : Nat) (h : n < 256) : (((c.toNat : Nat) : Int) == ((n : Nat) : Int)) = (c == UInt8.ofNat n) := by
  rw [beq_cast]
  by_cases e : c.toNat = n
  · have : c = UInt8.ofNat n := by rw [← e, UInt8.ofNat_toNat]
    rw [e, this]; simp
  · have : c ≠ UInt8.ofNat n := fun e' => e (by rw [e', show (UInt8.ofNat n).toNat = n by simp [UInt8.toNat_ofNat']; omega])
    rw [beq_eq_false_iff_ne.2 e, beq_eq_false_iff_ne.2 this]
def free (m : UInt8) (s : Str) : Prop := ∀ x ∈ s, x ≠ m
theorem idx_none {m : UInt8} : ∀ {s : Str}, free m s → Lib.indexByte s m = -1
  | [], _ => rfl
  | c :: r, h => by
    have h1 : (c == m) = false := beq_eq_false_iff_ne.2 (h c (by simp))
    have h2 := idx_none (s := r) fun x hx => h x (by simp [hx])
    unfold Lib.indexByte
    rw [h1, h2]
    rfl
theorem idx_hit {m : UInt8} : ∀ {s : Str} {i : Nat} (hi : i < s.length), free m (s.take i) → s[i]'hi = m → Lib.indexByte s m = i
  | [], i, hi, _, _ => by simp at hi
  | c :: r, 0, _, _, e => by
    unfold Lib.indexByte
    rw [show (c == m) = true from beq_iff_eq.2 e]
    rfl
  | c :: r, i + 1, hi, h, e => by
    have h1 : (c == m) = false := beq_eq_false_iff_ne.2 (h c (by simp))
    have h2 := idx_hit (s := r) (i := i) (by simpa using hi) (fun x hx => h x (by simp [hx])) (by simpa using e)
    unfold Lib.indexByte
    rw [h1, h2]
    simp only [Bool.false_eq_true, if_false]
    rw [if_neg (by simp)]
    omega
theorem idx_spec (m : UInt8) : ∀ s : Str, free m s ∨ ∃ (i : Nat) (hi : i < s.length), free m (s.take i) ∧ s[i]'hi = m
  | [] => .inl (by intro x hx; cases hx)
  | c :: r => by
    by_cases e : c = m
    · exact .inr ⟨0, by simp, by intro x hx; simp at hx, by simpa using e⟩
    · rcases idx_spec m r with h | ⟨i, hi, h, h2⟩
      · refine .inl fun x hx => ?_
        rcases List.mem_cons.1 hx with k | k
        · rw [k]; exact e
        · exact h x k
      · refine .inr ⟨i + 1, by simpa using hi, fun x hx => ?_, by simpa using h2⟩
        rw [List.take_succ_cons] at hx
        rcases List.mem_cons.1 hx with k | k
        · rw [k]; exact e
        · exact h x k

/-! plain: parts between marks -/
def cutGo (m : UInt8) : Str → Str → List Str
  | cur, [] => [cur]
  | cur, c :: r => bif c == m then cur :: cutGo m [] r else cutGo m (cur ++ [c]) r
--B partsC List UInt8 → List (List UInt8)
def partsC (s : Str) : List Str := cutGo 10 [] s
theorem cutGo_ne (m : UInt8) : ∀ (s cur : Str), cutGo m cur s ≠ []
  | [], cur => by simp [cutGo]
  | c :: r, cur => by
    unfold cutGo
    cases c == m with
    | true => simp
    | false => exact cutGo_ne m r _
theorem cut_no (m : UInt8) : ∀ (s cur : Str), free m s → cutGo m cur s = [cur ++ s]
  | [], cur, _ => by simp [cutGo]
  | c :: r, cur, h => by
    unfold cutGo
    rw [show (c == m) = false from beq_eq_false_iff_ne.2 (h c (by simp)), cond_false, cut_no m r _ fun x hx => h x (by simp [hx])]
    simp
theorem cut_at (m : UInt8) : ∀ (s cur : Str) (i : Nat) (hi : i < s.length), free m (s.take i) → s[i]'hi = m → cutGo m cur s = (cur ++ s.take i) :: cutGo m [] (s.drop (i + 1))
  | [], cur, i, hi, _, _ => by simp at hi
  | c :: r, cur, 0, _, _, e => by
    have e : c = m := e
    conv => lhs; unfold cutGo
    rw [show (c == m) = true from beq_iff_eq.2 e]
    simp
  | c :: r, cur, i + 1, hi, h, e => by
    conv => lhs; unfold cutGo
    rw [show (c == m) = false from beq_eq_false_iff_ne.2 (h c (by simp)), cond_false, cut_at m r _ i (by simpa using hi) (fun x hx => h x (by simp [hx])) (by simpa using e)]
    simp
--B linesC List UInt8 → List (List UInt8)
def linesC (s : Str) : List Str := (partsC s).take ((partsC s).length - 1)
theorem linesC_no {s : Str} (h : free 10 s) : linesC s = [] := by
  unfold linesC partsC
  rw [cut_no 10 s [] h]
  rfl
theorem linesC_at {s : Str} {i : Nat} (hi : i < s.length) (h : free 10 (s.take i)) (e : s[i]'hi = 10) : linesC s = s.take i :: linesC (s.drop (i + 1)) := by
  unfold linesC partsC
  rw [cut_at 10 s [] i hi h e, List.nil_append]
  have := List.length_pos_iff.2 (cutGo_ne 10 (s.drop (i + 1)) [])
  obtain ⟨n, hn⟩ : ∃ n, (cutGo 10 [] (s.drop (i + 1))).length = n + 1 := ⟨_, (Nat.succ_pred_eq_of_pos this).symm⟩
  rw [List.length_cons, hn]
  simp only [Nat.add_sub_cancel, List.take_succ_cons]

theorem cutC_no {g : Str} (h : free 32 g) : cutC g 32 = (g, [], false) := by
  unfold cutC Lib.cut
  rw [Lib.index_one, idx_none h, if_neg (by omega)]
theorem cutC_at {g : Str} {i : Nat} (hi : i < g.length) (h : free 32 (g.take i)) (e : g[i]'hi = 32) : cutC g 32 = (g.take i, g.drop (i + 1), true) := by
  unfold cutC Lib.cut
  rw [Lib.index_one, idx_hit hi h e, if_pos (by omega)]
  simp

theorem cond_intro {b : Bool} {P Q : Prop} (h : b = true) (hp : P) : cond b P Q := by rw [h]; exact hp
theorem cutGo_len (m : UInt8) : ∀ (s cur : Str), (cutGo m cur s).length ≤ s.length + 1
  | [], cur => by simp [cutGo]
  | c :: r, cur => by
    unfold cutGo
    cases c == m with
    | true => have := cutGo_len m r []; simp only [cond_true, List.length_cons]; omega
    | false => have := cutGo_len m r (cur ++ [c]); simp only [cond_false, List.length_cons]; omega
theorem partsC_len (s : Str) : (partsC s).length ≤ s.length + 1 := cutGo_len 10 s []
def wL (ls : List Str) : Nat := (ls.map fun l => l.length + 1).sum
theorem wL_lines : ∀ (n : Nat) (s : Str), s.length ≤ n → wL (linesC s) ≤ s.length
  | 0, s, h => by
    have : s = [] := List.eq_nil_of_length_eq_zero (by omega)
    subst this
    rw [linesC_no (by intro x hx; cases hx)]
    exact Nat.le_refl _
  | n + 1, s, h => by
    rcases idx_spec 10 s with hf | ⟨i, hi, hf, e⟩
    · rw [linesC_no hf]; exact Nat.zero_le _
    · rw [linesC_at hi hf e]
      have := wL_lines n (s.drop (i + 1)) (by rw [List.length_drop]; omega)
      rw [List.length_drop] at this
      simp only [wL, List.map_cons, List.sum_cons, List.length_take] at this ⊢
      omega
theorem wL_take {ls : List Str} {i : Nat} (hi : i < ls.length) : wL (ls.take (i + 1)) = wL (ls.take i) + ((ls[i]'hi).length + 1) := by
  unfold wL
  rw [take_one hi, List.map_append, List.sum_append]
  simp
theorem wL_le (ls : List Str) (i : Nat) : wL (ls.take i) ≤ wL ls := by unfold wL; exact sum_le _ ls i
theorem wL_len : ∀ ls : List Str, ls.length ≤ wL ls
  | [] => Nat.zero_le _
  | x :: r => by
    have := wL_len r
    simp only [wL, List.map_cons, List.sum_cons, List.length_cons] at *
    omega
def recGo : List Str → Int → List Str × Nat
  | [], _ => ([], 0)
  | g :: r, c => bif (cutC g 32).2.2 && (cutC g 32).1 == itoaL (checkN c (cutC g 32).2.1) then ((cutC g 32).2.1 :: (recGo r (checkN c (cutC g 32).2.1)).1, g.length + 1 + (recGo r (checkN c (cutC g 32).2.1)).2) else ([], 0)
theorem recGo_cons (g : Str) (r : List Str) (c : Int) : recGo (g :: r) c = bif (cutC g 32).2.2 && (cutC g 32).1 == itoaL (checkN c (cutC g 32).2.1) then ((cutC g 32).2.1 :: (recGo r (checkN c (cutC g 32).2.1)).1, g.length + 1 + (recGo r (checkN c (cutC g 32).2.1)).2) else ([], 0) := rfl
def recR (t : Str) : List Str × Nat := bif decide (t.length ≤ 6000) then recGo (linesC t) 0 else ([], 0)

/-! spec.l01Cut -/
noncomputable def a_spec_l01Cut : Nat → Option Ann := fun n => bif Nat.beq n 4 then some ⟨[0,1,5,6,7],0,true⟩ else none
noncomputable def c_spec_l01Cut : Ctx := mkC Tryd.prog tyT [] [] [] 36 a_spec_l01Cut 0
noncomputable def fr_spec_l01Cut_4 (s : Str) (m : Int) (out : List Str) (fr i : Int) : Fr := [(0, .str s), (1, .int .u8 m), (5, .obj 0 0), (6, .int .i64 fr), (7, .int .i64 i)]
noncomputable def hp_spec_l01Cut_4 (s : Str) (m : Int) (out : List Str) (fr i : Int) : Heap := [.sl 0 .str out]
theorem r_spec_l01Cut_4 (s : Str) (m : Int) (out : List Str) (fr i : Int) (Kn : Fr → Heap → Prop) (K : V → Heap → Prop) : round c_spec_l01Cut ⟨[0,1,5,6,7],0,true⟩ (lb c_spec_l01Cut 4 Tryd.f31) (fr_spec_l01Cut_4 s m out fr i) (hp_spec_l01Cut_4 s m out fr i) Kn (lk c_spec_l01Cut 4 Tryd.f31 [] K) =
  cond (decide (i ≤ (↑(List.length s) : Int)))
    (cond (i == (↑(List.length s) : Int))
      (cond (decide (0 ≤ fr) && (decide (fr ≤ i) && decide (i ≤ (↑(List.length s) : Int))))
        (cond (decide ((List.length out + 1) * 16 ≤ 140737488355328))
          (Kn [(0, (.str (s))), (1, (.int .u8 (m))), (5, (.obj 0 0)), (6, (.int .i64 (IntKind.wrap IntKind.i64 (i + 1)))), (7, (.int .i64 (IntKind.wrap IntKind.i64 (i + 1))))] [(.sl 0 .str (out ++ [List.drop (Int.toNat fr) (List.take (Int.toNat i) s)]))])
          (False))
        (False))
      (cond (decide (0 ≤ i))
        ((match s[Int.toNat i]? with
          | some b0 => cond ((↑(UInt8.toNat b0) : Int) == m)
            (cond (decide (0 ≤ fr) && (decide (fr ≤ i) && decide (i ≤ (↑(List.length s) : Int))))
              (cond (decide ((List.length out + 1) * 16 ≤ 140737488355328))
                (Kn [(0, (.str (s))), (1, (.int .u8 (m))), (5, (.obj 0 0)), (6, (.int .i64 (IntKind.wrap IntKind.i64 (i + 1)))), (7, (.int .i64 (IntKind.wrap IntKind.i64 (i + 1))))] [(.sl 0 .str (out ++ [List.drop (Int.toNat fr) (List.take (Int.toNat i) s)]))])
                (False))
              (False))
            (Kn [(0, (.str (s))), (1, (.int .u8 (m))), (5, (.obj 0 0)), (6, (.int .i64 (fr))), (7, (.int .i64 (IntKind.wrap IntKind.i64 (i + 1))))] [(.sl 0 .str (out))])
          | none => False))
        (False)))
    (K (.vec .str (out)) []) := by kernel_rfl
theorem w_spec_l01Cut (s : Str) (m : Int) (K : V → Heap → Prop) : wpFn c_spec_l01Cut Tryd.f31 (encAs [.cell .str, .cell (.int .u8)] (s, m, ())) [] K =
  LoopE c_spec_l01Cut ⟨[0, 1, 5, 6, 7], 0, true⟩ (lb c_spec_l01Cut 4 Tryd.f31) [(0, (.str (s))), (1, (.int .u8 (m))), (5, (.obj 0 0)), (6, (.int .i64 0)), (7, (.int .i64 0))] [(.sl 0 .str ([]))] (lk c_spec_l01Cut 4 Tryd.f31 [] K) := by kernel_rfl
noncomputable def s_spec_l01Cut : Sm := semG [.cell .str, .cell (.int .u8)] (fun x => match x with | (s, m, _) => decide (s.length ≤ 6000) && m == 10) fun x => match x with | (s, m, _) => .vec .str (partsC s)
theorem ok_spec_l01Cut : FnOk Tryd.prog 31 s_spec_l01Cut := fnOk_typedG (fnOk_runC (C := c_spec_l01Cut) rfl mixed .nil .nil .nil Tryd.func31 (by kernel_rfl)) fun (x : ((Str) × (Int) × Unit)) wf hg K h => by
  obtain ⟨s, m, ⟨⟩⟩ := x
  replace hg : (decide (s.length ≤ 6000) && m == 10) = true := hg
  replace h : K (.vec .str (partsC s)) [] := h
  rw [w_spec_l01Cut s m K]
  simp only [Bool.and_eq_true, decide_eq_true_eq, beq_iff_eq] at hg
  obtain ⟨g1, g2⟩ := hg
  subst g2
  refine loop_run (σ := Nat × Nat × List Str) (fun q => fr_spec_l01Cut_4 s 10 q.2.2 q.2.1 q.1) (fun q => hp_spec_l01Cut_4 s 10 q.2.2 q.2.1 q.1) (fun q => q.2.2.length ≤ q.1 ∧ ((q.1 ≤ s.length ∧ q.2.1 ≤ q.1 ∧ q.2.2 ++ cutGo 10 ((s.take q.1).drop q.2.1) (s.drop q.1) = partsC s) ∨ (q.1 = s.length + 1 ∧ q.2.2 = partsC s))) (fun q => s.length + 1 - q.1) ?_ (0, 0, []) ⟨Nat.le_refl _, .inl ⟨Nat.zero_le _, Nat.le_refl _, rfl⟩⟩
  rintro ⟨i, fr, out⟩ ⟨ho, hq⟩ Kn hk
  simp only at ho hq hk ⊢
  rw [r_spec_l01Cut_4 s 10 out fr i Kn K]
  rcases hq with ⟨hi, hf, hz⟩ | ⟨hi, hz⟩
  · have hw : IntKind.i64.wrap ((i : Int) + 1) = ((i + 1 : Nat) : Int) := by rw [i64_of (by omega) (by omega)]; omega
    simp only [d_t (show (i : Int) ≤ (s.length : Int) by omega), d_t (show (fr : Int) ≤ (i : Int) by omega), d_t (show (out.length + 1) * 16 ≤ 140737488355328 by omega), hw, d_0, Bool.and_self, cond_true, Int.toNat_natCast]
    by_cases hlt : i < s.length
    · rw [show ((i : Int) == (s.length : Int)) = false from beq_eq_false_iff_ne.2 (by omega)]
      simp only [cond_false, get_lt hlt]
      rw [List.drop_eq_getElem_cons hlt] at hz
      rw [show ((((s[i]'hlt).toNat : Nat) : Int) == 10) = (s[i]'hlt == 10) from u8_eq _ 10 (by decide)]
      cases e : (s[i]'hlt == 10) with
      | true =>
        simp only [cond_true]
        unfold cutGo at hz
        rw [e, cond_true] at hz
        refine hk (i + 1, i + 1, out ++ [(s.take i).drop fr]) ⟨by simp only [List.length_append, List.length_cons, List.length_nil]; omega, .inl ⟨hlt, Nat.le_refl _, ?_⟩⟩ (by simp only; omega)
        simp only
        have hd : (s.take (i + 1)).drop (i + 1) = [] := List.drop_of_length_le (by rw [List.length_take]; omega)
        rw [hd, List.append_assoc]
        exact hz
      | false =>
        simp only [cond_false]
        unfold cutGo at hz
        rw [e, cond_false] at hz
        refine hk (i + 1, fr, out) ⟨by simp only; omega, .inl ⟨hlt, by simp only; omega, ?_⟩⟩ (by simp only; omega)
        simp only
        rw [take_one hlt, List.drop_append_of_le_length (by rw [List.length_take]; omega)]
        exact hz
    · have : i = s.length := by omega
      subst this
      rw [show ((s.length : Int) == (s.length : Int)) = true from beq_self_eq_true _]
      simp only [cond_true]
      rw [List.drop_of_length_le (Nat.le_refl _)] at hz
      exact hk (s.length + 1, s.length + 1, out ++ [(s.take s.length).drop fr]) ⟨by simp only [List.length_append, List.length_cons, List.length_nil]; omega, .inr ⟨rfl, hz⟩⟩ (by simp only; omega)
  · simp only [d_f (show ¬ (i : Int) ≤ (s.length : Int) by omega), cond_false]
    rw [hz]
    exact h

/-! spec.l11Lines -/
noncomputable def c_spec_l11Lines : Ctx := mkC Tryd.prog tyT [(31, s_spec_l01Cut)] [] [] 18 (fun _ => none) 0
theorem w_spec_l11Lines (s : Str) (K : V → Heap → Prop) : wpFn c_spec_l11Lines Tryd.f21 (encAs [.cell .str] (s, ())) [] K =
  cond (decide (List.length s ≤ 6000) && 10 == 10)
    (cond (decide (0 ≤ 0) && (decide (0 ≤ IntKind.wrap IntKind.i64 ((↑(List.length (partsC s)) : Int) - 1)) && decide (IntKind.wrap IntKind.i64 ((↑(List.length (partsC s)) : Int) - 1) ≤ (↑(List.length (partsC s)) : Int))))
      (cond (decide (0 ≤ IntKind.wrap IntKind.i64 ((↑(List.length (partsC s)) : Int) - 1)))
        ((match (partsC s)[Int.toNat (IntKind.wrap IntKind.i64 ((↑(List.length (partsC s)) : Int) - 1))]? with
          | some y0 => K (.tuple [(.vec .str (List.drop 0 (List.take (Int.toNat (IntKind.wrap IntKind.i64 ((↑(List.length (partsC s)) : Int) - 1))) (partsC s)))), (.str (y0))]) []
          | none => False))
        (False))
      (False))
    (False) := by kernel_rfl
noncomputable def s_spec_l11Lines : Sm := semG [.cell .str] (fun x => match x with | (s, _) => decide (s.length ≤ 6000)) fun x => match x with | (s, _) => .tuple [.vec .str (linesC s), .str (((partsC s)[(partsC s).length - 1]?).getD [])]
theorem ok_spec_l11Lines : FnOk Tryd.prog 21 s_spec_l11Lines := fnOk_typedG (fnOk_runC (C := c_spec_l11Lines) rfl mixed (.cons ok_spec_l01Cut .nil) .nil .nil Tryd.func21 (by kernel_rfl)) fun (x : ((Str) × Unit)) wf hg K h => by
  obtain ⟨s, ⟨⟩⟩ := x
  replace hg : (decide (s.length ≤ 6000)) = true := hg
  replace h : K (.tuple [.vec .str (linesC s), .str (((partsC s)[(partsC s).length - 1]?).getD [])]) [] := h
  rw [w_spec_l11Lines s K]
  have hg' := of_decide_eq_true hg
  have hp : 0 < (partsC s).length := List.length_pos_iff.2 (cutGo_ne 10 s [])
  have hpl := partsC_len s
  have hw : IntKind.i64.wrap (((partsC s).length : Int) - 1) = (((partsC s).length - 1 : Nat) : Int) := by rw [i64_of (by omega) (by omega)]; omega
  have hlt : (partsC s).length - 1 < (partsC s).length := by omega
  rw [hg]
  simp only [beq_self_eq_true, Bool.and_self, cond_true, hw, Int.toNat_natCast, get_lt hlt, List.drop_zero]
  rw [get_lt hlt] at h
  exact cond_intro (by rw [Bool.and_eq_true, Bool.and_eq_true]; exact ⟨decide_eq_true (by omega), decide_eq_true (by omega), decide_eq_true (by omega)⟩) (cond_intro (decide_eq_true (by omega)) h)

/-! spec.RecoverJournal -/
noncomputable def a_spec_RecoverJournal_vg : Nat → Option Ann := fun n => bif Nat.beq n 8 then some ⟨[5,7,8,9,10],0,true⟩ else bif Nat.beq n 11 then some ⟨[5,7,8,9,10,11],0,true⟩ else none
noncomputable def c_spec_RecoverJournal_vg : Ctx := mkC Tryd.prog tyT [(21, s_spec_l11Lines), (22, s_spec_l01Check), (23, s_spec_l01Dec)] [] [] 86 a_spec_RecoverJournal_vg 0
noncomputable def gp_spec_RecoverJournal_vg : List (List (Option Ty)) := List.map giveR [.cell (.own .str), .cell (.imm tI), .cell (.imm .bool)]
noncomputable def fr_spec_RecoverJournal_vg_8 (ls out : List Str) (c n i : Int) : Fr := [(5, .vec .str ls), (7, .obj 0 0), (8, .int .i64 c), (9, .int .i64 n), (10, .int .i64 i)]
noncomputable def hp_spec_RecoverJournal_vg_8 (ls out : List Str) (c n i : Int) : Heap := [.sl 0 .str out]
theorem r_spec_RecoverJournal_vg_8 (ls out : List Str) (c n i : Int) (Kn : Fr → Heap → Prop) (K : V → Heap → Prop) : round c_spec_RecoverJournal_vg ⟨[5,7,8,9,10],0,true⟩ (lb c_spec_RecoverJournal_vg 8 Tryd.f10) (fr_spec_RecoverJournal_vg_8 ls out c n i) (hp_spec_RecoverJournal_vg_8 ls out c n i) Kn (lkG gp_spec_RecoverJournal_vg c_spec_RecoverJournal_vg 8 Tryd.f10 [] K) =
  cond (decide (i < (↑(List.length ls) : Int)))
    (LoopE c_spec_RecoverJournal_vg ⟨[5, 7, 8, 9, 10, 11], 0, true⟩ (pathB c_spec_RecoverJournal_vg [8, 11] (bodyOf Tryd.f10)) [(5, (.vec .str (ls))), (7, (.obj 0 0)), (8, (.int .i64 (c))), (9, (.int .i64 (n))), (10, (.int .i64 (i))), (11, (.int .i64 0))] [(.sl 0 .str (out))] (pathK c_spec_RecoverJournal_vg [(8, ⟨[5,7,8,9,10],0,true⟩, Kn)] 11 (bodyOf Tryd.f10) (kFnG gp_spec_RecoverJournal_vg c_spec_RecoverJournal_vg Tryd.f10 [] K)))
    (K (.tuple [(.obj 0 0), (.int .i64 (n)), (.bool true)]) [(.sl 0 .str (out))]) := by kernel_rfl
noncomputable def fr_spec_RecoverJournal_vg_11 (ls out : List Str) (c n i j : Int) : Fr := [(5, .vec .str ls), (7, .obj 0 0), (8, .int .i64 c), (9, .int .i64 n), (10, .int .i64 i), (11, .int .i64 j)]
noncomputable def hp_spec_RecoverJournal_vg_11 (ls out : List Str) (c n i j : Int) : Heap := [.sl 0 .str out]
theorem r_spec_RecoverJournal_vg_11 (ls out : List Str) (c n i j : Int) (Kn8 : Fr → Heap → Prop) (Kn : Fr → Heap → Prop) (K : V → Heap → Prop) : round c_spec_RecoverJournal_vg ⟨[5,7,8,9,10,11],0,true⟩ (pathB c_spec_RecoverJournal_vg [8, 11] (bodyOf Tryd.f10)) (fr_spec_RecoverJournal_vg_11 ls out c n i j) (hp_spec_RecoverJournal_vg_11 ls out c n i j) Kn (pathK c_spec_RecoverJournal_vg [(8, ⟨[5,7,8,9,10],0,true⟩, Kn8)] 11 (bodyOf Tryd.f10) (kFnG gp_spec_RecoverJournal_vg c_spec_RecoverJournal_vg Tryd.f10 [] K)) =
  cond (decide (0 ≤ i))
    ((match ls[Int.toNat i]? with
      | some y0 => cond (decide (j < (↑(List.length y0) : Int)))
        (cond (decide (0 ≤ i))
          ((match ls[Int.toNat i]? with
            | some y1 => cond (decide (0 ≤ j))
              ((match y1[Int.toNat j]? with
                | some b2 => cond ((↑(UInt8.toNat b2) : Int) != 32)
                  (Kn [(5, (.vec .str (ls))), (7, (.obj 0 0)), (8, (.int .i64 (c))), (9, (.int .i64 (n))), (10, (.int .i64 (i))), (11, (.int .i64 (IntKind.wrap IntKind.i64 (j + 1))))] [(.sl 0 .str (out))])
                  (cond (decide (0 ≤ i))
                    ((match ls[Int.toNat i]? with
                      | some y3 => cond (j == (↑(List.length y3) : Int))
                        (K (.tuple [(.obj 0 0), (.int .i64 (n)), (.bool true)]) [(.sl 0 .str (out))])
                        (cond (decide (0 ≤ i))
                          ((match ls[Int.toNat i]? with
                            | some y4 => cond (decide (0 ≤ IntKind.wrap IntKind.i64 (j + 1)) && (decide (IntKind.wrap IntKind.i64 (j + 1) ≤ (↑(List.length y4) : Int)) && decide ((↑(List.length y4) : Int) ≤ (↑(List.length y4) : Int))))
                              (cond (decide (0 ≤ c) && decide (c < 65003))
                                (cond (decide (0 ≤ i))
                                  ((match ls[Int.toNat i]? with
                                    | some y5 => cond (decide (0 ≤ 0) && (decide (0 ≤ j) && decide (j ≤ (↑(List.length y5) : Int))))
                                      (cond (decide (0 ≤ checkN c (List.drop (Int.toNat (IntKind.wrap IntKind.i64 (j + 1))) (List.take (Int.toNat (↑(List.length y4) : Int)) y4))) && decide (checkN c (List.drop (Int.toNat (IntKind.wrap IntKind.i64 (j + 1))) (List.take (Int.toNat (↑(List.length y4) : Int)) y4)) < 65003))
                                        (cond (!bytesEq (List.drop 0 (List.take (Int.toNat j) y5)) (itoaL (checkN c (List.drop (Int.toNat (IntKind.wrap IntKind.i64 (j + 1))) (List.take (Int.toNat (↑(List.length y4) : Int)) y4)))))
                                          (K (.tuple [(.obj 0 0), (.int .i64 (n)), (.bool true)]) [(.sl 0 .str (out))])
                                          (cond (decide ((List.length out + 1) * 16 ≤ 140737488355328))
                                            (cond (decide (0 ≤ i))
                                              ((match ls[Int.toNat i]? with
                                                | some y6 => Kn8 [(5, (.vec .str (ls))), (7, (.obj 0 0)), (8, (.int .i64 (checkN c (List.drop (Int.toNat (IntKind.wrap IntKind.i64 (j + 1))) (List.take (Int.toNat (↑(List.length y4) : Int)) y4))))), (9, (.int .i64 (IntKind.wrap IntKind.i64 (n + IntKind.wrap IntKind.i64 ((↑(List.length y6) : Int) + 1))))), (10, (.int .i64 (IntKind.wrap IntKind.i64 (i + 1))))] [(.sl 0 .str (out ++ [List.drop (Int.toNat (IntKind.wrap IntKind.i64 (j + 1))) (List.take (Int.toNat (↑(List.length y4) : Int)) y4)]))]
                                                | none => False))
                                              (False))
                                            (False)))
                                        (False))
                                      (False)
                                    | none => False))
                                  (False))
                                (False))
                              (False)
                            | none => False))
                          (False))
                      | none => False))
                    (False))
                | none => False))
              (False)
            | none => False))
          (False))
        (cond (decide (0 ≤ i))
          ((match ls[Int.toNat i]? with
            | some y7 => cond (j == (↑(List.length y7) : Int))
              (K (.tuple [(.obj 0 0), (.int .i64 (n)), (.bool true)]) [(.sl 0 .str (out))])
              (cond (decide (0 ≤ i))
                ((match ls[Int.toNat i]? with
                  | some y8 => cond (decide (0 ≤ IntKind.wrap IntKind.i64 (j + 1)) && (decide (IntKind.wrap IntKind.i64 (j + 1) ≤ (↑(List.length y8) : Int)) && decide ((↑(List.length y8) : Int) ≤ (↑(List.length y8) : Int))))
                    (cond (decide (0 ≤ c) && decide (c < 65003))
                      (cond (decide (0 ≤ i))
                        ((match ls[Int.toNat i]? with
                          | some y9 => cond (decide (0 ≤ 0) && (decide (0 ≤ j) && decide (j ≤ (↑(List.length y9) : Int))))
                            (cond (decide (0 ≤ checkN c (List.drop (Int.toNat (IntKind.wrap IntKind.i64 (j + 1))) (List.take (Int.toNat (↑(List.length y8) : Int)) y8))) && decide (checkN c (List.drop (Int.toNat (IntKind.wrap IntKind.i64 (j + 1))) (List.take (Int.toNat (↑(List.length y8) : Int)) y8)) < 65003))
                              (cond (!bytesEq (List.drop 0 (List.take (Int.toNat j) y9)) (itoaL (checkN c (List.drop (Int.toNat (IntKind.wrap IntKind.i64 (j + 1))) (List.take (Int.toNat (↑(List.length y8) : Int)) y8)))))
                                (K (.tuple [(.obj 0 0), (.int .i64 (n)), (.bool true)]) [(.sl 0 .str (out))])
                                (cond (decide ((List.length out + 1) * 16 ≤ 140737488355328))
                                  (cond (decide (0 ≤ i))
                                    ((match ls[Int.toNat i]? with
                                      | some y10 => Kn8 [(5, (.vec .str (ls))), (7, (.obj 0 0)), (8, (.int .i64 (checkN c (List.drop (Int.toNat (IntKind.wrap IntKind.i64 (j + 1))) (List.take (Int.toNat (↑(List.length y8) : Int)) y8))))), (9, (.int .i64 (IntKind.wrap IntKind.i64 (n + IntKind.wrap IntKind.i64 ((↑(List.length y10) : Int) + 1))))), (10, (.int .i64 (IntKind.wrap IntKind.i64 (i + 1))))] [(.sl 0 .str (out ++ [List.drop (Int.toNat (IntKind.wrap IntKind.i64 (j + 1))) (List.take (Int.toNat (↑(List.length y8) : Int)) y8)]))]
                                      | none => False))
                                    (False))
                                  (False)))
                              (False))
                            (False)
                          | none => False))
                        (False))
                      (False))
                    (False)
                  | none => False))
                (False))
            | none => False))
          (False))
      | none => False))
    (False) := by kernel_rfl
theorem w_spec_RecoverJournal_vg (t : Str) (K : V → Heap → Prop) : wpFnG gp_spec_RecoverJournal_vg c_spec_RecoverJournal_vg Tryd.f10 (encAs [.cell .str] (t, ())) [] K =
  cond (decide ((↑(List.length t) : Int) > 6000))
    (K (.tuple [(.obj 0 0), (.int .i64 0), (.bool false)]) [(.sl 0 .str ([]))])
    (cond (decide (List.length t ≤ 6000))
      (LoopE c_spec_RecoverJournal_vg ⟨[5, 7, 8, 9, 10], 0, true⟩ (lb c_spec_RecoverJournal_vg 8 Tryd.f10) [(5, (.vec .str (linesC t))), (7, (.obj 0 0)), (8, (.int .i64 0)), (9, (.int .i64 0)), (10, (.int .i64 0))] [(.sl 0 .str ([]))] (lkG gp_spec_RecoverJournal_vg c_spec_RecoverJournal_vg 8 Tryd.f10 [] K))
      (False)) := by kernel_rfl
noncomputable def s_spec_RecoverJournal_vg : Sm := semV [.cell .str] [.cell (.own .str), .cell (.imm tI), .cell (.imm .bool)] (fun x => match x with | (t, _) => true) fun x => match x with | (t, _) => ((recR t).1, ((recR t).2 : Int), decide (t.length ≤ 6000), ())
theorem ok_spec_RecoverJournal_vg : FnOkL Tryd.prog 10 s_spec_RecoverJournal_vg := fnOkO_give (fnOkO_runG (C := c_spec_RecoverJournal_vg) gp_spec_RecoverJournal_vg rfl mixed (.cons ok_spec_l11Lines (.cons ok_spec_l01Check (.cons ok_spec_l01Dec .nil))) .nil .nil Tryd.func10 (by kernel_rfl)) rfl fun (x : ((Str) × Unit)) wf hg K h => by
  obtain ⟨t, ⟨⟩⟩ := x
  replace h : K (tup (valRs [.cell (.own .str), .cell (.imm tI), .cell (.imm .bool)] (((recR t).1, ((recR t).2 : Int), decide (t.length ≤ 6000), ())) 0)) (thRs [.cell (.own .str), .cell (.imm tI), .cell (.imm .bool)] (((recR t).1, ((recR t).2 : Int), decide (t.length ≤ 6000), ()))) := h
  rw [w_spec_RecoverJournal_vg t K]
  unfold recR at h
  by_cases hl : t.length ≤ 6000
  · rw [d_f (show ¬ (t.length : Int) > 6000 by omega), d_t hl]
    rw [d_t hl] at h
    simp only [cond_true, cond_false] at h ⊢
    have hwl := wL_lines t.length t (Nat.le_refl _)
    generalize linesC t = ls at *
    have hln := wL_len ls
    refine loop_run (σ := Nat × List Str × Int × Nat) (fun q => fr_spec_RecoverJournal_vg_8 ls q.2.1 q.2.2.1 q.2.2.2 q.1) (fun q => hp_spec_RecoverJournal_vg_8 ls q.2.1 q.2.2.1 q.2.2.2 q.1) (fun q => q.1 ≤ ls.length ∧ q.2.1.length ≤ q.1 ∧ (0 ≤ q.2.2.1 ∧ q.2.2.1 < 65003) ∧ q.2.2.2 ≤ wL (ls.take q.1) ∧ recGo ls 0 = (q.2.1 ++ (recGo (ls.drop q.1) q.2.2.1).1, q.2.2.2 + (recGo (ls.drop q.1) q.2.2.1).2)) (fun q => ls.length - q.1) ?_ (0, [], 0, 0) ⟨Nat.zero_le _, Nat.le_refl _, by decide, Nat.zero_le _, by simp⟩
    rintro ⟨i, out, c, n⟩ ⟨hi, ho, hc, hn, hz⟩ Kn8 hk8
    simp only at hi ho hc hn hz hk8 ⊢
    rw [hz] at h
    have brk : recGo (ls.drop i) c = ([], 0) → K (.tuple [(.obj 0 0), (.int .i64 n), (.bool true)]) [.sl 0 .str out] := fun e => by
      rw [e] at h
      simp only [List.append_nil, Nat.add_zero] at h
      exact h
    rw [r_spec_RecoverJournal_vg_8 ls out c n i Kn8 K]
    by_cases hlt : i < ls.length
    · rw [d_lt hlt, cond_true]
      have hwt := wL_take hlt
      have hwe := wL_le ls (i + 1)
      rw [List.drop_eq_getElem_cons hlt, recGo_cons] at hz brk
      refine loop_run (σ := Nat) (fun j => fr_spec_RecoverJournal_vg_11 ls out c n i j) (fun j => hp_spec_RecoverJournal_vg_11 ls out c n i j) (fun j => j ≤ (ls[i]'hlt).length ∧ free 32 ((ls[i]'hlt).take j)) (fun j => (ls[i]'hlt).length - j) ?_ 0 ⟨Nat.zero_le _, by intro x hx; simp at hx⟩
      intro j ⟨hj, hfr⟩ Kn hk
      have hjk := hk (j + 1)
      rw [r_spec_RecoverJournal_vg_11 ls out c n i j Kn8 Kn K]
      simp only [d_0, cond_true, Int.toNat_natCast, get_lt hlt]
      have hgn := hk8 (i + 1, out ++ [(ls[i]'hlt).drop (j + 1)], checkN c ((ls[i]'hlt).drop (j + 1)), n + ((ls[i]'hlt).length + 1))
      generalize ls[i]'hlt = g at *
      by_cases hjl : j < g.length
      · have hwj : IntKind.i64.wrap ((j : Int) + 1) = ((j + 1 : Nat) : Int) := by rw [i64_of (by omega) (by omega)]; omega
        have hwi : IntKind.i64.wrap ((i : Int) + 1) = ((i + 1 : Nat) : Int) := by rw [i64_of (by omega) (by omega)]; omega
        have hwn : IntKind.i64.wrap ((n : Int) + IntKind.i64.wrap ((g.length : Int) + 1)) = ((n + (g.length + 1) : Nat) : Int) := by rw [i64_of (n := (g.length : Int) + 1) (by omega) (by omega), i64_of (by omega) (by omega)]; omega
        simp only [d_lt hjl, cond_true, get_lt hjl, hwj, hwi, hwn, Int.toNat_natCast, List.take_length, List.drop_zero]
        have hu : ((((g[j]'hjl).toNat : Nat) : Int) == 32) = (g[j]'hjl == 32) := u8_eq _ 32 (by decide)
        rw [show ((((g[j]'hjl).toNat : Nat) : Int) != 32) = !(g[j]'hjl == 32) by rw [← hu]; rfl]
        cases e : (g[j]'hjl == 32) with
        | false =>
          simp only [Bool.not_false, cond_true]
          refine hjk ⟨hjl, ?_⟩ (by omega)
          intro x hx
          rw [take_one hjl] at hx
          rcases List.mem_append.1 hx with k | k
          · exact hfr x k
          · simp only [List.mem_singleton] at k
            rw [k]
            exact beq_eq_false_iff_ne.1 e
        | true =>
          have hcut := cutC_at hjl hfr (beq_iff_eq.1 e)
          rw [hcut] at hz brk
          simp only [Bool.true_and] at hz brk
          have hcr := checkN_range hc (g.drop (j + 1))
          simp only [Bool.not_true, cond_false]
          rw [show ((j : Int) == (g.length : Int)) = false from beq_eq_false_iff_ne.2 (by omega), cond_false]
          refine cond_intro (by
        rw [Bool.and_eq_true, Bool.and_eq_true]
        refine ⟨?_, ?_, ?_⟩ <;> first | exact decide_eq_true (by omega) | rfl) ?_
          refine cond_intro (by rw [Bool.and_eq_true]; exact ⟨decide_eq_true (by omega), decide_eq_true (by omega)⟩) ?_
          refine cond_intro (by
        rw [Bool.and_eq_true, Bool.and_eq_true]
        refine ⟨?_, ?_, ?_⟩ <;> first | exact decide_eq_true (by omega) | rfl) ?_
          refine cond_intro (by rw [Bool.and_eq_true]; exact ⟨decide_eq_true hcr.1, decide_eq_true hcr.2⟩) ?_
          rw [bytesEq]
          cases e2 : (g.take j == itoaL (checkN c (g.drop (j + 1)))) with
          | false =>
            rw [e2] at brk
            simp only [cond_false, Bool.not_false, cond_true] at brk ⊢
            exact brk trivial
          | true =>
            rw [e2] at hz
            simp only [cond_true, Bool.not_true, cond_false] at hz ⊢
            refine cond_intro (decide_eq_true (by omega)) ?_
            refine hgn ⟨hlt, by simp only [List.length_append, List.length_cons, List.length_nil]; omega, hcr, by simp only; omega, ?_⟩ (by simp only; omega)
            simp only
            rw [hz]
            exact Prod.ext (by simp) (by simp only; omega)
      · have : j = g.length := by omega
        subst this
        rw [List.take_length] at hfr
        rw [cutC_no hfr] at brk
        simp only [d_nlt hjl, cond_false]
        rw [show ((g.length : Int) == (g.length : Int)) = true from beq_self_eq_true _]
        exact brk rfl
    · have : i = ls.length := by omega
      subst this
      rw [d_nlt hlt, cond_false]
      exact brk (by rw [List.drop_of_length_le (Nat.le_refl _)]; rfl)
  · rw [d_t (show (t.length : Int) > 6000 by omega), cond_true]
    rw [d_f hl] at h
    exact h
noncomputable def s_spec_RecoverJournal_vg_vv : Sm := semG [.cell .str] (fun x => match x with | (t, _) => true) fun x => tup (vecRs [.cell (.own .str), .cell (.imm tI), .cell (.imm .bool)] (match x with | (t, _) => ((recR t).1, ((recR t).2 : Int), decide (t.length ≤ 6000), ())))
theorem ok_spec_RecoverJournal_vg_vv : FnOk Tryd.prog 10 s_spec_RecoverJournal_vg_vv := fnOk_of_give ok_spec_RecoverJournal_vg.1

/-! impl.RecoverJournal -/
noncomputable def a_impl_RecoverJournal_vg : Nat → Option Ann := fun n => bif Nat.beq n 4 then some ⟨[0,5,6,7],0,true⟩ else none
noncomputable def c_impl_RecoverJournal_vg : Ctx := mkC Tryd.prog tyT [(24, s_strings_IndexByte), (25, s_strings_Cut), (17, s_impl_CheckOf), (19, s_impl_Decimal)] [] [] 68 a_impl_RecoverJournal_vg 0
noncomputable def gp_impl_RecoverJournal_vg : List (List (Option Ty)) := List.map giveR [.cell (.own .str), .cell (.imm tI), .cell (.imm .bool)]
noncomputable def fr_impl_RecoverJournal_vg_4 (t : Str) (out : List Str) (p c : Int) : Fr := [(0, .str t), (5, .obj 0 0), (6, .int .i64 p), (7, .int .i64 c)]
noncomputable def hp_impl_RecoverJournal_vg_4 (t : Str) (out : List Str) (p c : Int) : Heap := [.sl 0 .str out]
theorem r_impl_RecoverJournal_vg_4 (t : Str) (out : List Str) (p c : Int) (Kn : Fr → Heap → Prop) (K : V → Heap → Prop) : round c_impl_RecoverJournal_vg ⟨[0,5,6,7],0,true⟩ (lb c_impl_RecoverJournal_vg 4 Tryd.f11) (fr_impl_RecoverJournal_vg_4 t out p c) (hp_impl_RecoverJournal_vg_4 t out p c) Kn (lkG gp_impl_RecoverJournal_vg c_impl_RecoverJournal_vg 4 Tryd.f11 [] K) =
  cond (decide (0 ≤ p) && (decide (p ≤ (↑(List.length t) : Int)) && decide ((↑(List.length t) : Int) ≤ (↑(List.length t) : Int))))
    (cond (decide (indexB (List.drop (Int.toNat p) (List.take (Int.toNat (↑(List.length t) : Int)) t)) (Nat.toUInt8 10) < 0))
      (K (.tuple [(.obj 0 0), (.int .i64 (p)), (.bool true)]) [(.sl 0 .str (out))])
      (cond (decide (0 ≤ p) && (decide (p ≤ IntKind.wrap IntKind.i64 (p + indexB (List.drop (Int.toNat p) (List.take (Int.toNat (↑(List.length t) : Int)) t)) (Nat.toUInt8 10))) && decide (IntKind.wrap IntKind.i64 (p + indexB (List.drop (Int.toNat p) (List.take (Int.toNat (↑(List.length t) : Int)) t)) (Nat.toUInt8 10)) ≤ (↑(List.length t) : Int))))
        (cond (decide (List.length (List.drop (Int.toNat p) (List.take (Int.toNat (IntKind.wrap IntKind.i64 (p + indexB (List.drop (Int.toNat p) (List.take (Int.toNat (↑(List.length t) : Int)) t)) (Nat.toUInt8 10)))) t)) < 4294967281))
          (cond (decide (0 ≤ c) && decide (c < 65003))
            (cond (!Prod.snd (Prod.snd (cutC (List.drop (Int.toNat p) (List.take (Int.toNat (IntKind.wrap IntKind.i64 (p + indexB (List.drop (Int.toNat p) (List.take (Int.toNat (↑(List.length t) : Int)) t)) (Nat.toUInt8 10)))) t)) 32)))
              (K (.tuple [(.obj 0 0), (.int .i64 (p)), (.bool true)]) [(.sl 0 .str (out))])
              (cond (Nat.blt (List.length (itoaL (checkN c (Prod.fst (Prod.snd (cutC (List.drop (Int.toNat p) (List.take (Int.toNat (IntKind.wrap IntKind.i64 (p + indexB (List.drop (Int.toNat p) (List.take (Int.toNat (↑(List.length t) : Int)) t)) (Nat.toUInt8 10)))) t)) 32))))) + 1) 9223372036854775808)
                (cond (Nat.blt (List.length (itoaL (checkN c (Prod.fst (Prod.snd (cutC (List.drop (Int.toNat p) (List.take (Int.toNat (IntKind.wrap IntKind.i64 (p + indexB (List.drop (Int.toNat p) (List.take (Int.toNat (↑(List.length t) : Int)) t)) (Nat.toUInt8 10)))) t)) 32)))) ++ Array.toList (ByteArray.data { data := #[32] })) + List.length (Prod.fst (Prod.snd (cutC (List.drop (Int.toNat p) (List.take (Int.toNat (IntKind.wrap IntKind.i64 (p + indexB (List.drop (Int.toNat p) (List.take (Int.toNat (↑(List.length t) : Int)) t)) (Nat.toUInt8 10)))) t)) 32)))) 9223372036854775808)
                  (cond (decide (0 ≤ p) && (decide (p ≤ IntKind.wrap IntKind.i64 (p + indexB (List.drop (Int.toNat p) (List.take (Int.toNat (↑(List.length t) : Int)) t)) (Nat.toUInt8 10))) && decide (IntKind.wrap IntKind.i64 (p + indexB (List.drop (Int.toNat p) (List.take (Int.toNat (↑(List.length t) : Int)) t)) (Nat.toUInt8 10)) ≤ (↑(List.length t) : Int))))
                    (cond (!bytesEq (itoaL (checkN c (Prod.fst (Prod.snd (cutC (List.drop (Int.toNat p) (List.take (Int.toNat (IntKind.wrap IntKind.i64 (p + indexB (List.drop (Int.toNat p) (List.take (Int.toNat (↑(List.length t) : Int)) t)) (Nat.toUInt8 10)))) t)) 32)))) ++ Array.toList (ByteArray.data { data := #[32] }) ++ Prod.fst (Prod.snd (cutC (List.drop (Int.toNat p) (List.take (Int.toNat (IntKind.wrap IntKind.i64 (p + indexB (List.drop (Int.toNat p) (List.take (Int.toNat (↑(List.length t) : Int)) t)) (Nat.toUInt8 10)))) t)) 32))) (List.drop (Int.toNat p) (List.take (Int.toNat (IntKind.wrap IntKind.i64 (p + indexB (List.drop (Int.toNat p) (List.take (Int.toNat (↑(List.length t) : Int)) t)) (Nat.toUInt8 10)))) t)))
                      (K (.tuple [(.obj 0 0), (.int .i64 (p)), (.bool true)]) [(.sl 0 .str (out))])
                      (cond (decide ((List.length out + 1) * 16 ≤ 140737488355328))
                        (Kn [(0, (.str (t))), (5, (.obj 0 0)), (6, (.int .i64 (IntKind.wrap IntKind.i64 (IntKind.wrap IntKind.i64 (p + indexB (List.drop (Int.toNat p) (List.take (Int.toNat (↑(List.length t) : Int)) t)) (Nat.toUInt8 10)) + 1)))), (7, (.int .i64 (checkN c (Prod.fst (Prod.snd (cutC (List.drop (Int.toNat p) (List.take (Int.toNat (IntKind.wrap IntKind.i64 (p + indexB (List.drop (Int.toNat p) (List.take (Int.toNat (↑(List.length t) : Int)) t)) (Nat.toUInt8 10)))) t)) 32))))))] [(.sl 0 .str (out ++ [Prod.fst (Prod.snd (cutC (List.drop (Int.toNat p) (List.take (Int.toNat (IntKind.wrap IntKind.i64 (p + indexB (List.drop (Int.toNat p) (List.take (Int.toNat (↑(List.length t) : Int)) t)) (Nat.toUInt8 10)))) t)) 32))]))])
                        (False)))
                    (False))
                  (False))
                (False)))
            (False))
          (False))
        (False)))
    (False) := by kernel_rfl
theorem w_impl_RecoverJournal_vg (t : Str) (K : V → Heap → Prop) : wpFnG gp_impl_RecoverJournal_vg c_impl_RecoverJournal_vg Tryd.f11 (encAs [.cell .str] (t, ())) [] K =
  cond (decide ((↑(List.length t) : Int) > 6000))
    (K (.tuple [(.obj 0 0), (.int .i64 0), (.bool false)]) [(.sl 0 .str ([]))])
    (LoopE c_impl_RecoverJournal_vg ⟨[0, 5, 6, 7], 0, true⟩ (lb c_impl_RecoverJournal_vg 4 Tryd.f11) [(0, (.str (t))), (5, (.obj 0 0)), (6, (.int .i64 0)), (7, (.int .i64 0))] [(.sl 0 .str ([]))] (lkG gp_impl_RecoverJournal_vg c_impl_RecoverJournal_vg 4 Tryd.f11 [] K)) := by kernel_rfl
noncomputable def s_impl_RecoverJournal_vg : Sm := semV [.cell .str] [.cell (.own .str), .cell (.imm tI), .cell (.imm .bool)] (fun x => match x with | (t, _) => true) fun x => match x with | (t, _) => ((recR t).1, ((recR t).2 : Int), decide (t.length ≤ 6000), ())
theorem ok_impl_RecoverJournal_vg : FnOkL Tryd.prog 11 s_impl_RecoverJournal_vg := fnOkO_give (fnOkO_runG (C := c_impl_RecoverJournal_vg) gp_impl_RecoverJournal_vg rfl mixed (.cons ok_strings_IndexByte (.cons ok_strings_Cut (.cons ok_impl_CheckOf (.cons ok_impl_Decimal .nil)))) .nil .nil Tryd.func11 (by kernel_rfl)) rfl fun (x : ((Str) × Unit)) wf hg K h => by
  obtain ⟨t, ⟨⟩⟩ := x
  replace h : K (tup (valRs [.cell (.own .str), .cell (.imm tI), .cell (.imm .bool)] (((recR t).1, ((recR t).2 : Int), decide (t.length ≤ 6000), ())) 0)) (thRs [.cell (.own .str), .cell (.imm tI), .cell (.imm .bool)] (((recR t).1, ((recR t).2 : Int), decide (t.length ≤ 6000), ()))) := h
  rw [w_impl_RecoverJournal_vg t K]
  unfold recR at h
  by_cases hl : t.length ≤ 6000
  · rw [d_f (show ¬ (t.length : Int) > 6000 by omega), cond_false]
    rw [d_t hl] at h
    simp only [cond_true] at h
    refine loop_run (σ := Nat × List Str × Int) (fun q => fr_impl_RecoverJournal_vg_4 t q.2.1 q.1 q.2.2) (fun q => hp_impl_RecoverJournal_vg_4 t q.2.1 q.1 q.2.2) (fun q => q.1 ≤ t.length ∧ q.2.1.length ≤ q.1 ∧ (0 ≤ q.2.2 ∧ q.2.2 < 65003) ∧ recGo (linesC t) 0 = (q.2.1 ++ (recGo (linesC (t.drop q.1)) q.2.2).1, q.1 + (recGo (linesC (t.drop q.1)) q.2.2).2)) (fun q => t.length - q.1) ?_ (0, [], 0) ⟨Nat.zero_le _, Nat.le_refl _, by decide, by simp⟩
    rintro ⟨p, out, c⟩ ⟨hp, ho, hc, hz⟩ Kn hk
    simp only at hp ho hc hz hk ⊢
    rw [hz] at h
    have brk : recGo (linesC (t.drop p)) c = ([], 0) → K (.tuple [(.obj 0 0), (.int .i64 p), (.bool true)]) [.sl 0 .str out] := fun e => by
      rw [e] at h
      simp only [List.append_nil, Nat.add_zero] at h
      exact h
    rw [r_impl_RecoverJournal_vg_4 t out p c Kn K]
    refine cond_intro (by
        rw [Bool.and_eq_true, Bool.and_eq_true]
        refine ⟨?_, ?_, ?_⟩ <;> first | exact decide_eq_true (by omega) | rfl) ?_
    simp only [Int.toNat_natCast, List.take_length]
    have hrl : (t.drop p).length = t.length - p := List.length_drop
    rcases idx_spec 10 (t.drop p) with hf | ⟨i, hi, hf, e⟩
    · have hx : indexB (t.drop p) (Nat.toUInt8 10) = -1 := idx_none hf
      rw [hx, d_t (show (-1 : Int) < 0 by omega), cond_true]
      exact brk (by rw [linesC_no hf]; rfl)
    · have hx : indexB (t.drop p) (Nat.toUInt8 10) = i := idx_hit hi hf e
      have hw : IntKind.i64.wrap ((p : Int) + (i : Int)) = ((p + i : Nat) : Int) := by rw [i64_of (by omega) (by omega)]; omega
      have hw2 : IntKind.i64.wrap (((p + i : Nat) : Int) + 1) = ((p + (i + 1) : Nat) : Int) := by rw [i64_of (by omega) (by omega)]; omega
      have hseg : (t.take (p + i)).drop p = (t.drop p).take i := by rw [List.drop_take]; congr 1; omega
      rw [linesC_at hi hf e, recGo_cons, List.drop_drop] at hz brk
      rw [hx, hw, hw2, d_f (show ¬ ((i : Nat) : Int) < 0 by omega)]
      simp only [cond_false, Int.toNat_natCast, hseg]
      have hsl : ((t.drop p).take i).length = i := by rw [List.length_take]; omega
      have hgn := fun s : Str => hk (p + (i + 1), out ++ [s], checkN c s)
      generalize (t.drop p).take i = g at *
      refine cond_intro (by
        rw [Bool.and_eq_true, Bool.and_eq_true]
        refine ⟨?_, ?_, ?_⟩ <;> first | exact decide_eq_true (by omega) | rfl) ?_
      refine cond_intro (decide_eq_true (by omega)) ?_
      refine cond_intro (by rw [Bool.and_eq_true]; exact ⟨decide_eq_true hc.1, decide_eq_true hc.2⟩) ?_
      rcases idx_spec 32 g with hf2 | ⟨j, hj, hf2, e2⟩
      · rw [cutC_no hf2] at brk ⊢
        exact brk rfl
      · have hcut := cutC_at hj hf2 e2
        rw [hcut] at hz brk ⊢
        simp only [Bool.true_and, Bool.not_true, cond_false] at hz brk ⊢
        have hcr := checkN_range hc (g.drop (j + 1))
        have hil := itoa_len hcr
        have hdl : (g.drop (j + 1)).length ≤ i := by rw [List.length_drop]; omega
        have hg2 : g = (g.take j ++ [32]) ++ g.drop (j + 1) := by
          rw [← e2, ← take_one hj, List.take_append_drop]
        refine cond_intro (blt_big (by omega)) ?_
        refine cond_intro (blt_big (by simp only [List.length_append, List.length_cons, List.length_nil]; omega)) ?_
        refine cond_intro (by
        rw [Bool.and_eq_true, Bool.and_eq_true]
        refine ⟨?_, ?_, ?_⟩ <;> first | exact decide_eq_true (by omega) | rfl) ?_
        have hbe : bytesEq (itoaL (checkN c (g.drop (j + 1))) ++ Array.toList (ByteArray.data { data := #[32] }) ++ g.drop (j + 1)) g = (g.take j == itoaL (checkN c (g.drop (j + 1)))) := by
          rw [bytesEq, Bool.eq_iff_iff, beq_iff_eq, beq_iff_eq]
          constructor
          · intro he
            have he2 : itoaL (checkN c (g.drop (j + 1))) ++ [32] ++ g.drop (j + 1) = (g.take j ++ [32]) ++ g.drop (j + 1) := he.trans hg2
            exact (List.append_cancel_right (List.append_cancel_right he2)).symm
          · intro he
            rw [← he]
            exact hg2.symm
        rw [hbe]
        cases e3 : (g.take j == itoaL (checkN c (g.drop (j + 1)))) with
        | false =>
          rw [e3] at brk
          exact brk rfl
        | true =>
          rw [e3] at hz
          simp only [cond_true, Bool.not_true, cond_false] at hz ⊢
          refine cond_intro (decide_eq_true (by omega)) ?_
          refine hgn (g.drop (j + 1)) ⟨by simp only; omega, by simp only [List.length_append, List.length_cons, List.length_nil]; omega, hcr, ?_⟩ (by simp only; omega)
          simp only
          rw [hz, hsl]
          exact Prod.ext (by simp) (by simp only; omega)
  · rw [d_t (show (t.length : Int) > 6000 by omega), cond_true]
    rw [d_f hl] at h
    exact h
noncomputable def s_impl_RecoverJournal_vg_vv : Sm := semG [.cell .str] (fun x => match x with | (t, _) => true) fun x => tup (vecRs [.cell (.own .str), .cell (.imm tI), .cell (.imm .bool)] (match x with | (t, _) => ((recR t).1, ((recR t).2 : Int), decide (t.length ≤ 6000), ())))
theorem ok_impl_RecoverJournal_vg_vv : FnOk Tryd.prog 11 s_impl_RecoverJournal_vg_vv := fnOk_of_give ok_impl_RecoverJournal_vg.1

end Go.Proofs.YtoaholifeklhaaaDoor
