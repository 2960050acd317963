/- Sums of numbers in their orders. -/
import Derived.Test.YtkdkcdkjfiabfaaGeo
import Derived.Test.YtkdkcdkjfiabfaaFlJ
set_option linter.unusedVariables false
set_option linter.unusedSimpArgs false
set_option maxRecDepth 100000
namespace Go.Proofs.Ytkdkcdkjfiabfaa
open Go.Ev Go.Ev.Fl

theorem bne_nb (a b : Nat) : (a != b) = !Nat.beq a b := by
  by_cases e : a = b
  · rw [nbeq_t e, e, bne_self_eq_false]; rfl
  · rw [nbeq_f e, bne_iff_ne.2 e]; rfl
/-- What is left of a count. -/
def cnt (n : Int) : Nat → Int
  | 0 => n
  | i + 1 => n - ((i + 1 : Nat) : Int)
theorem cnt_eq (n : Int) (i : Nat) : cnt n i = n - i := by
  cases i with
  | zero => simp [cnt]
  | succ i => rfl

/-! lists that the laws draw -/
def drawOneV (b : Bool) (s : SrcD) : Nat := bif b then floatV s else plainV s
def drawOneS (b : Bool) (s : SrcD) : SrcD := bif b then floatS s else plainS s
--B drawsS Bool → Nat → SrcD → SrcD
def drawsS (b : Bool) : Nat → SrcD → SrcD
  | 0, s => s
  | n + 1, s => drawOneS b (drawsS b n s)
--B drawsV Bool → Nat → SrcD → List Nat
def drawsV (b : Bool) : Nat → SrcD → List Nat
  | 0, _ => []
  | n + 1, s => drawsV b n s ++ [drawOneV b (drawsS b n s)]
theorem drawsV_length (b : Bool) (n : Nat) (s : SrcD) : (drawsV b n s).length = n := by
  induction n with
  | zero => rfl
  | succ n ih => simp [drawsV, ih]
theorem wd_draws (b : Bool) (n : Nat) (s : SrcD) : ∀ x ∈ drawsV b n s, Wd x := by
  induction n with
  | zero => intro x h; cases h
  | succ n ih =>
    intro x h
    rcases List.mem_append.1 h with h | h
    · exact ih x h
    · rw [List.mem_singleton.1 h]
      cases b
      · exact wd_plain _
      · exact wd_float _
theorem plainS_at (s : SrcD) : (plainS s).1 = s.1 ∧ s.2.1 ≤ (plainS s).2.1 ∧ (plainS s).2.1 ≤ s.2.1 + 12 := by
  have h1 := pickS_at s 129
  have h2 := pickS_at (pickS s 129) 4
  exact ⟨by unfold plainS; rw [pickS_1, pickS_1], by unfold plainS; omega, by unfold plainS; omega⟩
theorem floatS_at (s : SrcD) : (floatS s).1 = s.1 ∧ s.2.1 ≤ (floatS s).2.1 ∧ (floatS s).2.1 ≤ s.2.1 + 12 := by
  have h1 := pickS_at s 12
  have h2 := pickS_at (pickS s 12) 4
  have e1 := pickS_1 s 12
  have e2 := pickS_1 (pickS s 12) 4
  unfold floatS
  cases !(pickV s 12 == 0)
  · cases pickV (pickS s 12) 4 == 0
    · cases pickV (pickS s 12) 4 == 1
      · cases pickV (pickS s 12) 4 == 2
        · have h3 := pickS_at (pickS (pickS s 12) 4) 129
          have h4 := pickS_at (pickS (pickS (pickS s 12) 4) 129) 4
          have h5 := pickS_at (plainS (pickS (pickS s 12) 4)) 4
          have h6 : (plainS (pickS (pickS s 12) 4)).2.1 = (pickS (pickS (pickS (pickS s 12) 4) 129) 4).2.1 := rfl
          have h7 := (plainS_at (pickS (pickS s 12) 4)).1
          simp only [cond_false]
          exact ⟨by rw [pickS_1, h7, e2, e1], by omega, by omega⟩
        · have h3 := pickS_at (pickS (pickS s 12) 4) 65536
          simp only [cond_false, cond_true]
          exact ⟨by rw [pickS_1, e2, e1], by omega, by omega⟩
      · have h3 := pickS_at (pickS (pickS s 12) 4) 65536
        have h4 := pickS_at (pickS (pickS (pickS s 12) 4) 65536) 65536
        simp only [cond_false, cond_true]
        exact ⟨by rw [pickS_1, pickS_1, e2, e1], by omega, by omega⟩
    · have h3 := pickS_at (pickS (pickS s 12) 4) 10
      simp only [cond_false, cond_true]
      exact ⟨by rw [pickS_1, e2, e1], by omega, by omega⟩
  · have h3 := pickS_at (pickS s 12) 129
    have h4 := pickS_at (pickS (pickS s 12) 129) 4
    have h6 : (plainS (pickS s 12)).2.1 = (pickS (pickS (pickS s 12) 129) 4).2.1 := rfl
    have h7 := (plainS_at (pickS s 12)).1
    simp only [cond_true]
    exact ⟨by rw [h7, e1], by omega, by omega⟩
theorem drawsS_at (b : Bool) (n : Nat) (s : SrcD) : (drawsS b n s).1 = s.1 ∧ s.2.1 ≤ (drawsS b n s).2.1 ∧ (drawsS b n s).2.1 ≤ s.2.1 + 12 * n := by
  induction n with
  | zero => exact ⟨rfl, Int.le_refl _, by simp [drawsS]⟩
  | succ n ih =>
    have h : (drawOneS b (drawsS b n s)).1 = (drawsS b n s).1 ∧ (drawsS b n s).2.1 ≤ (drawOneS b (drawsS b n s)).2.1 ∧ (drawOneS b (drawsS b n s)).2.1 ≤ (drawsS b n s).2.1 + 12 := by
      cases b
      · exact plainS_at _
      · exact floatS_at _
    have e : drawsS b (n + 1) s = drawOneS b (drawsS b n s) := rfl
    rw [e]
    exact ⟨h.1.trans ih.1, by omega, by omega⟩

/-! spec.l01DrawFloats -/
noncomputable def a_spec_l01DrawFloats : Nat → Option Ann := fun n => bif Nat.beq n 3 then some ⟨[0,1,5,6],2,false⟩ else none
noncomputable def c_spec_l01DrawFloats : Ctx := mkC Try.prog tyT [] [] [(124, s_spec_l00Src_one), (126, s_spec_l01DrawFloat), (168, s_spec_l01DrawPlain)] 26 a_spec_l01DrawFloats 1
noncomputable def fr_spec_l01DrawFloats_3 (s : SrcD) (n : Int) (out : List Nat) (b : Bool) : Fr := [(0, .ptr 0 0), (1, .int .i64 n), (5, .obj 1 0), (6, .bool b)]
noncomputable def hp_spec_l01DrawFloats_3 (s : SrcD) (n : Int) (out : List Nat) (b : Bool) : Heap := [.box (enc tSrc s), .sl 0 tF out]
theorem r_spec_l01DrawFloats_3 (s : SrcD) (n : Int) (out : List Nat) (b : Bool) (Kn : Fr → Heap → Prop) (K : V → Heap → Prop) : round c_spec_l01DrawFloats ⟨[0,1,5,6],2,false⟩ (lb c_spec_l01DrawFloats 3 Try.f82) (fr_spec_l01DrawFloats_3 s n out b) (hp_spec_l01DrawFloats_3 s n out b) Kn (lkO c_spec_l01DrawFloats 3 Try.f82 [.box []] K) =
  cond (decide (n > 0))
    (cond (b)
      (cond (srcIn 2 s)
        (cond (decide ((List.length out + 1) * 4 ≤ 140737488355328))
          (Kn [(0, (.ptr 0 0)), (1, (.int .i64 (IntKind.wrap IntKind.i64 (n - 1)))), (5, (.obj 1 0)), (6, (.bool (b)))] [(.box [(.vec (.int .u8) (Prod.fst (floatS s))), (.int .i64 (Prod.fst (Prod.snd (floatS s)))), (.int .u64 (Prod.snd (Prod.snd (floatS s))))]), (.sl 0 (.float .f32) (out ++ [floatV s]))])
          (False))
        (False))
      (cond (srcIn 5 s)
        (cond (decide ((List.length out + 1) * 4 ≤ 140737488355328))
          (Kn [(0, (.ptr 0 0)), (1, (.int .i64 (IntKind.wrap IntKind.i64 (n - 1)))), (5, (.obj 1 0)), (6, (.bool (b)))] [(.box [(.vec (.int .u8) (Prod.fst (plainS s))), (.int .i64 (Prod.fst (Prod.snd (plainS s)))), (.int .u64 (Prod.snd (Prod.snd (plainS s))))]), (.sl 0 (.float .f32) (out ++ [plainV s]))])
          (False))
        (False)))
    (K (.vec (.float .f32) (out)) [(.box [(.vec (.int .u8) (Prod.fst s)), (.int .i64 (Prod.fst (Prod.snd s))), (.int .u64 (Prod.snd (Prod.snd s)))])]) := by kernel_rfl
theorem w_spec_l01DrawFloats (s : SrcD) (n : Int) (K : V → Heap → Prop) : wpFnO c_spec_l01DrawFloats Try.f82 (.ptr 0 0 :: encAs [.cell (.int .i64)] (n, ())) [.box (enc tSrc s)] K =
  cond (srcIn 6 s)
    (LoopE c_spec_l01DrawFloats ⟨[0, 1, 5, 6], 2, false⟩ (lb c_spec_l01DrawFloats 3 Try.f82) [(0, (.ptr 0 0)), (1, (.int .i64 (n))), (5, (.obj 1 0)), (6, (.bool (pickV s 4 == 0)))] [(.box [(.vec (.int .u8) (Prod.fst (pickS s 4))), (.int .i64 (Prod.fst (Prod.snd (pickS s 4)))), (.int .u64 (Prod.snd (Prod.snd (pickS s 4))))]), (.sl 0 (.float .f32) ([]))] (lkO c_spec_l01DrawFloats 3 Try.f82 [.box []] K))
    (False) := by kernel_rfl
noncomputable def s_spec_l01DrawFloats : Sm := semP tSrc [.cell (.int .i64)] (fun s x => match x with | (n, _) => srcIn 1 s && decide (n ≤ 1000)) fun s x => match x with | (n, _) => (.vec tF (drawsV (pickV s 4 == 0) n.toNat (pickS s 4)), drawsS (pickV s 4 == 0) n.toNat (pickS s 4))
theorem ok_spec_l01DrawFloats : FnOkO Try.prog 82 s_spec_l01DrawFloats := fnOkO_box (fnOkO_runC (C := c_spec_l01DrawFloats) rfl mixed .nil .nil (.cons ok_spec_l00Src_one (.cons ok_spec_l01DrawFloat (.cons ok_spec_l01DrawPlain .nil))) Try.func82 (by kernel_rfl)) fun (s : SrcD) (x : ((Int) × Unit)) ws wf hg K h => by
  obtain ⟨n, ⟨⟩⟩ := x
  replace hg : (srcIn 1 s && decide (n ≤ 1000)) = true := hg
  replace h : K (.vec tF (drawsV (pickV s 4 == 0) n.toNat (pickS s 4))) [.box (enc tSrc (drawsS (pickV s 4 == 0) n.toNat (pickS s 4)))] := h
  rw [w_spec_l01DrawFloats s n K]
  simp only [Bool.and_eq_true, decide_eq_true_eq] at hg
  have wn : -9223372036854775808 ≤ n ∧ n ≤ 9223372036854775807 := wf.1
  rw [srcIn_mono (M := 6) hg.1 (by omega)]
  simp only [cond_true]
  have hg1 := srcIn_iff.1 hg.1
  have hp := pickS_at s 4
  generalize hb : (pickV s 4 == 0) = b at *
  generalize pickS s 4 = s0 at *
  refine loop_run (σ := Nat) (fun i => fr_spec_l01DrawFloats_3 (drawsS b i s0) (cnt n i) (drawsV b i s0) b) (fun i => hp_spec_l01DrawFloats_3 (drawsS b i s0) (cnt n i) (drawsV b i s0) b) (fun i => i ≤ n.toNat) (fun i => n.toNat - i) ?_ 0 (Nat.zero_le _)
  intro i hi Kn hk
  rw [r_spec_l01DrawFloats_3 (drawsS b i s0) (cnt n i) (drawsV b i s0) b Kn K]
  by_cases hlt : i < n.toNat
  · have hat := drawsS_at b i s0
    have g2 : srcIn 2 (drawsS b i s0) = true := srcIn_iff.2 (by omega)
    rw [cnt_eq, d_t (show n - (i : Int) > 0 by omega), g2, srcIn_mono (M := 5) g2 (by omega), drawsV_length, d_t (show (i + 1) * 4 ≤ 140737488355328 by omega), i64_of (n := n - (i : Int) - 1) (by omega) (by omega), show n - (i : Int) - 1 = n - ((i + 1 : Nat) : Int) by omega]
    have next := hk (i + 1) hlt (by omega)
    cases b <;> exact next
  · have : i = n.toNat := by omega
    subst this
    rw [cnt_eq, d_f (show ¬ n - ((n.toNat : Nat) : Int) > 0 by omega)]
    exact h

/-! spec.B10Numbers -/
noncomputable def c_spec_B10Numbers : Ctx := mkC Try.prog tyT [] [] [(81, s_spec_l00From), (82, s_spec_l01DrawFloats)] 11 (fun _ => none) 0
theorem w_spec_B10Numbers (xs : List Int) (n : Int) (K : V → Heap → Prop) : wpFn c_spec_B10Numbers Try.f15 (encAs [.cell tB, .cell (.int .i64)] (xs, n, ())) [] K =
  cond (srcIn 1 (xs, 0, 0) && decide (n ≤ 1000))
    (K (.vec (.float .f32) (drawsV (pickV (xs, 0, 0) 4 == 0) (Int.toNat n) (pickS (xs, 0, 0) 4))) [])
    (False) := by kernel_rfl
noncomputable def s_spec_B10Numbers : Sm := semG [.cell tB, .cell (.int .i64)] (fun x => match x with | (xs, n, _) => decide (n ≤ 1000)) fun x => match x with | (xs, n, _) => .vec tF (drawsV (pickV (xs, 0, 0) 4 == 0) n.toNat (pickS (xs, 0, 0) 4))
theorem ok_spec_B10Numbers : FnOk Try.prog 15 s_spec_B10Numbers := fnOk_typedG (fnOk_runC (C := c_spec_B10Numbers) rfl mixed .nil .nil (.cons ok_spec_l00From (.cons ok_spec_l01DrawFloats .nil)) Try.func15 (by kernel_rfl)) fun (x : ((List Int) × (Int) × Unit)) wf hg K h => by
  obtain ⟨xs, n, ⟨⟩⟩ := x
  replace hg : (decide (n ≤ 1000)) = true := hg
  replace h : K (.vec tF (drawsV (pickV (xs, 0, 0) 4 == 0) n.toNat (pickS (xs, 0, 0) 4))) [] := h
  rw [w_spec_B10Numbers xs n K]
  rw [srcIn_iff.2 (show (0 : Int) ≤ 0 ∧ (0 : Int) ≤ ((1 : Nat) : Int) * 1152921504606846976 from ⟨Int.le_refl _, by decide⟩), hg]
  exact h

--B wholeS Int → Nat → SrcD → SrcD
def wholeS (m : Int) : Nat → SrcD → SrcD
  | 0, s => s
  | n + 1, s => pickS (wholeS m n s) (2 * m + 1)
def wholeI (m : Int) : Nat → SrcD → List Int
  | 0, _ => []
  | n + 1, s => wholeI m n s ++ [pickV (wholeS m n s) (2 * m + 1) - m]
--B wholeV Int → Nat → SrcD → List Nat
def wholeV (m : Int) (n : Nat) (s : SrcD) : List Nat := (wholeI m n s).map FloatKind.f32.nearest
theorem wholeS_at (m : Int) (n : Nat) (s : SrcD) : (wholeS m n s).1 = s.1 ∧ s.2.1 ≤ (wholeS m n s).2.1 ∧ (wholeS m n s).2.1 ≤ s.2.1 + 2 * n := by
  induction n with
  | zero => exact ⟨rfl, Int.le_refl _, by simp [wholeS]⟩
  | succ n ih =>
    have h := pickS_at (wholeS m n s) (2 * m + 1)
    have e : wholeS m (n + 1) s = pickS (wholeS m n s) (2 * m + 1) := rfl
    rw [e]
    exact ⟨(pickS_1 _ _).trans ih.1, by omega, by omega⟩
theorem wholeI_length (m : Int) (n : Nat) (s : SrcD) : (wholeI m n s).length = n := by
  induction n with
  | zero => rfl
  | succ n ih => simp [wholeI, ih]
theorem wholeV_length (m : Int) (n : Nat) (s : SrcD) : (wholeV m n s).length = n := by
  unfold wholeV; rw [List.length_map, wholeI_length]
theorem wholeV_succ (m : Int) (n : Nat) (s : SrcD) : wholeV m (n + 1) s = wholeV m n s ++ [FloatKind.f32.nearest (pickV (wholeS m n s) (2 * m + 1) - m)] := by
  unfold wholeV
  rw [wholeI, List.map_append]; rfl
theorem wholeI_range {m : Int} (hm : 0 ≤ m) {s : SrcD} (hb : bytes s.1) (n : Nat) : ∀ x ∈ wholeI m n s, x.natAbs ≤ m.toNat := by
  induction n with
  | zero => intro x h; cases h
  | succ n ih =>
    intro x h
    rcases List.mem_append.1 h with h | h
    · exact ih x h
    · have r := pickV_range (s := wholeS m n s) (by rw [(wholeS_at m n s).1]; exact hb) (n := 2 * m + 1) (by omega)
      rw [List.mem_singleton.1 h]
      omega

/-! spec.B10Whole -/
noncomputable def a_spec_B10Whole : Nat → Option Ann := fun n => bif Nat.beq n 3 then some ⟨[1,2,7,8],2,false⟩ else none
noncomputable def c_spec_B10Whole : Ctx := mkC Try.prog tyT [] [] [(81, s_spec_l00From), (88, s_spec_l00Src_pick)] 28 a_spec_B10Whole 0
noncomputable def fr_spec_B10Whole_3 (s : SrcD) (n m : Int) (out : List Nat) : Fr := [(1, .int .i64 n), (2, .int .i64 m), (7, .ptr 0 0), (8, .obj 1 0)]
noncomputable def hp_spec_B10Whole_3 (s : SrcD) (n m : Int) (out : List Nat) : Heap := [.box (enc tSrc s), .sl 0 tF out]
theorem r_spec_B10Whole_3 (s : SrcD) (n m : Int) (out : List Nat) (Kn : Fr → Heap → Prop) (K : V → Heap → Prop) : round c_spec_B10Whole ⟨[1,2,7,8],2,false⟩ (lb c_spec_B10Whole 3 Try.f20) (fr_spec_B10Whole_3 s n m out) (hp_spec_B10Whole_3 s n m out) Kn (lk c_spec_B10Whole 3 Try.f20 [] K) =
  cond (decide (n > 0))
    (cond (srcIn 6 s)
      (cond (decide ((List.length out + 1) * 4 ≤ 140737488355328))
        (Kn [(1, (.int .i64 (IntKind.wrap IntKind.i64 (n - 1)))), (2, (.int .i64 (m))), (7, (.ptr 0 0)), (8, (.obj 1 0))] [(.box [(.vec (.int .u8) (Prod.fst (pickS s (IntKind.wrap IntKind.i64 (IntKind.wrap IntKind.i64 (2 * m) + 1))))), (.int .i64 (Prod.fst (Prod.snd (pickS s (IntKind.wrap IntKind.i64 (IntKind.wrap IntKind.i64 (2 * m) + 1)))))), (.int .u64 (Prod.snd (Prod.snd (pickS s (IntKind.wrap IntKind.i64 (IntKind.wrap IntKind.i64 (2 * m) + 1))))))]), (.sl 0 (.float .f32) (out ++ [FloatKind.nearest FloatKind.f32 (IntKind.wrap IntKind.i64 (pickV s (IntKind.wrap IntKind.i64 (IntKind.wrap IntKind.i64 (2 * m) + 1)) - m))]))])
        (False))
      (False))
    (K (.vec (.float .f32) (out)) []) := by kernel_rfl
theorem w_spec_B10Whole (xs : List Int) (n m : Int) (K : V → Heap → Prop) : wpFn c_spec_B10Whole Try.f20 (encAs [.cell tB, .cell (.int .i64), .cell (.int .i64)] (xs, n, m, ())) [] K =
  LoopE c_spec_B10Whole ⟨[1, 2, 7, 8], 2, false⟩ (lb c_spec_B10Whole 3 Try.f20) [(1, (.int .i64 (n))), (2, (.int .i64 (m))), (7, (.ptr 0 0)), (8, (.obj 1 0))] [(.box [(.vec (.int .u8) (xs)), (.int .i64 0), (.int .u64 0)]), (.sl 0 (.float .f32) ([]))] (lk c_spec_B10Whole 3 Try.f20 [] K) := by kernel_rfl
noncomputable def s_spec_B10Whole : Sm := semG [.cell tB, .cell (.int .i64), .cell (.int .i64)] (fun x => match x with | (xs, n, m, _) => decide (n ≤ 1000) && (decide (0 ≤ m) && decide (m ≤ 1000000))) fun x => match x with | (xs, n, m, _) => .vec tF (wholeV m n.toNat (xs, 0, 0))
theorem ok_spec_B10Whole : FnOk Try.prog 20 s_spec_B10Whole := fnOk_typedG (fnOk_runC (C := c_spec_B10Whole) rfl mixed .nil .nil (.cons ok_spec_l00From (.cons ok_spec_l00Src_pick .nil)) Try.func20 (by kernel_rfl)) fun (x : ((List Int) × (Int) × (Int) × Unit)) wf hg K h => by
  obtain ⟨xs, n, m, ⟨⟩⟩ := x
  replace hg : (decide (n ≤ 1000) && (decide (0 ≤ m) && decide (m ≤ 1000000))) = true := hg
  replace h : K (.vec tF (wholeV m n.toNat (xs, 0, 0))) [] := h
  rw [w_spec_B10Whole xs n m K]
  simp only [Bool.and_eq_true, decide_eq_true_eq] at hg
  have wn : -9223372036854775808 ≤ n ∧ n ≤ 9223372036854775807 := wf.2.1
  have hb : bytes xs := bytes_of wf.1
  refine loop_run (σ := Nat) (fun i => fr_spec_B10Whole_3 (wholeS m i (xs, 0, 0)) (cnt n i) m (wholeV m i (xs, 0, 0))) (fun i => hp_spec_B10Whole_3 (wholeS m i (xs, 0, 0)) (cnt n i) m (wholeV m i (xs, 0, 0))) (fun i => i ≤ n.toNat) (fun i => n.toNat - i) ?_ 0 (Nat.zero_le _)
  intro i hi Kn hk
  rw [r_spec_B10Whole_3 (wholeS m i (xs, 0, 0)) (cnt n i) m (wholeV m i (xs, 0, 0)) Kn K]
  by_cases hlt : i < n.toNat
  · have hat := wholeS_at m i (xs, 0, 0)
    have g6 : srcIn 6 (wholeS m i (xs, 0, 0)) = true := srcIn_iff.2 (by simp only [] at hat; omega)
    have r := pickV_range (s := wholeS m i (xs, 0, 0)) (by rw [hat.1]; exact hb) (n := 2 * m + 1) (by omega)
    rw [cnt_eq, d_t (show n - (i : Int) > 0 by omega), g6, wholeV_length, d_t (show (i + 1) * 4 ≤ 140737488355328 by omega), i64_of (n := n - (i : Int) - 1) (by omega) (by omega), show n - (i : Int) - 1 = n - ((i + 1 : Nat) : Int) by omega, i64_of (n := 2 * m) (by omega) (by omega), i64_of (n := 2 * m + 1) (by omega) (by omega), i64_of (n := pickV (wholeS m i (xs, 0, 0)) (2 * m + 1) - m) (by omega) (by omega)]
    have next := hk (i + 1) hlt (by omega)
    rw [wholeV_succ] at next
    exact next
  · have : i = n.toNat := by omega
    subst this
    rw [cnt_eq, d_f (show ¬ n - ((n.toNat : Nat) : Int) > 0 by omega)]
    exact h

/-! impl.listOk -/
noncomputable def c_impl_listOk : Ctx := mkC Try.prog tyT [] [] [] 6 (fun _ => none) 0
theorem w_impl_listOk (xs : List Nat) (K : V → Heap → Prop) : wpFn c_impl_listOk Try.f83 (encAs [.cell (.slice tF)] (xs, ())) [] K =
  K (.bool (decide ((↑(List.length xs) : Int) ≤ 256))) [] := by kernel_rfl
noncomputable def s_impl_listOk : Sm := semT [.cell (.slice tF)] fun x => match x with | (xs, _) => .bool (decide (xs.length ≤ 256))
theorem ok_impl_listOk : FnOk Try.prog 83 s_impl_listOk := fnOk_typed (fnOk_runC (C := c_impl_listOk) rfl mixed .nil .nil .nil Try.func83 (by kernel_rfl)) fun (x : ((List Nat) × Unit)) wf K h => by
  obtain ⟨xs, ⟨⟩⟩ := x
  replace h : K (.bool (decide (xs.length ≤ 256))) [] := h
  rw [w_impl_listOk xs K]
  rw [show decide ((xs.length : Int) ≤ 256) = decide (xs.length ≤ 256) from decide_eq_decide.2 (by omega)]
  exact h

--B sumN List Nat → Nat
def sumN (xs : List Nat) : Nat := fsumL xs
theorem sumN_take {xs : List Nat} {i : Nat} (h : i < xs.length) : sumN (xs.take (i + 1)) = fadd .f32 (sumN (xs.take i)) (xs[i]'h) := by
  unfold sumN fsumL
  rw [take_one h, List.foldl_append]; rfl
/-! impl.sum -/
noncomputable def a_impl_sum : Nat → Option Ann := fun n => bif Nat.beq n 3 then some ⟨[3,6,7,8],0,false⟩ else none
noncomputable def c_impl_sum : Ctx := mkC Try.prog tyT [] [] [] 17 a_impl_sum 0
noncomputable def fr_impl_sum_3 (out : Nat) (xs : List Nat) (n i : Int) : Fr := [(3, .float .f32 out), (6, .vec tF xs), (7, .int .i64 n), (8, .int .i64 i)]
theorem r_impl_sum_3 (out : Nat) (xs : List Nat) (n i : Int) (Kn : Fr → Heap → Prop) (K : V → Heap → Prop) : round c_impl_sum ⟨[3,6,7,8],0,false⟩ (lb c_impl_sum 3 Try.f84) (fr_impl_sum_3 out xs n i) [] Kn (lk c_impl_sum 3 Try.f84 [] K) =
  cond (decide (i < n))
    (cond (decide (0 ≤ i))
      ((match xs[Int.toNat i]? with
        | some y0 => Kn [(3, (.float .f32 (fadd FloatKind.f32 out y0))), (6, (.vec (.float .f32) (xs))), (7, (.int .i64 (n))), (8, (.int .i64 (IntKind.wrap IntKind.i64 (i + 1))))] []
        | none => False))
      (False))
    (K (.float .f32 (out)) []) := by kernel_rfl
theorem w_impl_sum (xs : List Nat) (K : V → Heap → Prop) : wpFn c_impl_sum Try.f84 (encAs [.cell (.slice tF)] (xs, ())) [] K =
  LoopE c_impl_sum ⟨[3, 6, 7, 8], 0, false⟩ (lb c_impl_sum 3 Try.f84) [(3, (.float .f32 0)), (6, (.vec (.float .f32) (xs))), (7, (.int .i64 ((↑(List.length xs) : Int)))), (8, (.int .i64 0))] [] (lk c_impl_sum 3 Try.f84 [] K) := by kernel_rfl
noncomputable def s_impl_sum : Sm := semT [.cell (.slice tF)] fun x => match x with | (xs, _) => .float .f32 (sumN xs)
theorem ok_impl_sum : FnOk Try.prog 84 s_impl_sum := fnOk_typed (fnOk_runC (C := c_impl_sum) rfl mixed .nil .nil .nil Try.func84 (by kernel_rfl)) fun (x : ((List Nat) × Unit)) wf K h => by
  obtain ⟨xs, ⟨⟩⟩ := x
  replace h : K (.float .f32 (sumN xs)) [] := h
  rw [w_impl_sum xs K]
  have wl : xs.length ≤ 9223372036854775807 := wf.1.1
  refine loop_run (σ := Nat) (fun i => fr_impl_sum_3 (sumN (xs.take i)) xs xs.length i) (fun i => []) (fun i => i ≤ xs.length) (fun i => xs.length - i) ?_ 0 (Nat.zero_le _)
  intro i hi Kn hk
  rw [r_impl_sum_3 (sumN (xs.take i)) xs xs.length i Kn K]
  by_cases hlt : i < xs.length
  · have next := hk (i + 1) hlt (by omega)
    rw [sumN_take hlt] at next
    simp only [d_lt hlt, d_0, cond_true, Int.toNat_natCast, get_lt hlt]
    rw [i64_of (n := (i : Int) + 1) (by omega) (by omega)]
    exact next
  · have : i = xs.length := by omega
    subst this
    simp only [d_nlt hlt, cond_false, List.take_length]
    exact h

/-! impl.SumNumbers -/
noncomputable def c_impl_SumNumbers : Ctx := mkC Try.prog tyT [(83, s_impl_listOk), (84, s_impl_sum)] [] [] 9 (fun _ => none) 0
theorem w_impl_SumNumbers (xs : List Nat) (K : V → Heap → Prop) : wpFn c_impl_SumNumbers Try.f16 (encAs [.cell (.slice tF)] (xs, ())) [] K =
  cond (!decide (List.length xs ≤ 256))
    (K (.tuple [(.float .f32 0), (.bool false)]) [])
    (K (.tuple [(.float .f32 (sumN xs)), (.bool true)]) []) := by kernel_rfl
noncomputable def s_impl_SumNumbers : Sm := semT [.cell (.slice tF)] fun x => match x with | (xs, _) => .tuple [.float .f32 (bif decide (xs.length ≤ 256) then sumN xs else 0), .bool (decide (xs.length ≤ 256))]
theorem ok_impl_SumNumbers : FnOk Try.prog 16 s_impl_SumNumbers := fnOk_typed (fnOk_runC (C := c_impl_SumNumbers) rfl mixed (.cons ok_impl_listOk (.cons ok_impl_sum .nil)) .nil .nil Try.func16 (by kernel_rfl)) fun (x : ((List Nat) × Unit)) wf K h => by
  obtain ⟨xs, ⟨⟩⟩ := x
  replace h : K (.tuple [.float .f32 (bif decide (xs.length ≤ 256) then sumN xs else 0), .bool (decide (xs.length ≤ 256))]) [] := h
  rw [w_impl_SumNumbers xs K]
  cases e : decide (xs.length ≤ 256) <;> rw [e] at h <;> exact h

--B dotN List Nat → List Nat → Nat
def dotN (xs ys : List Nat) : Nat := (xs.zip ys).foldl (fun a p => fadd .f32 a (fmul .f32 p.1 p.2)) 0
def dotT (ps : List (Nat × Nat)) (i : Nat) : Nat := (ps.take i).foldl (fun a p => fadd .f32 a (fmul .f32 p.1 p.2)) 0
theorem dotT_succ {ps : List (Nat × Nat)} {i : Nat} (h : i < ps.length) : dotT ps (i + 1) = fadd .f32 (dotT ps i) (fmul .f32 (ps[i]'h).1 (ps[i]'h).2) := by
  unfold dotT
  rw [take_one h, List.foldl_append]; rfl
/-! impl.dot -/
noncomputable def a_impl_dot : Nat → Option Ann := fun n => bif Nat.beq n 3 then some ⟨[1,5,8,9,10],0,false⟩ else none
noncomputable def c_impl_dot : Ctx := mkC Try.prog tyT [] [] [] 25 a_impl_dot 0
noncomputable def fr_impl_dot_3 (ys : List Nat) (out : Nat) (xs : List Nat) (n i : Int) : Fr := [(1, .vec tF ys), (5, .float .f32 out), (8, .vec tF xs), (9, .int .i64 n), (10, .int .i64 i)]
theorem r_impl_dot_3 (ys : List Nat) (out : Nat) (xs : List Nat) (n i : Int) (Kn : Fr → Heap → Prop) (K : V → Heap → Prop) : round c_impl_dot ⟨[1,5,8,9,10],0,false⟩ (lb c_impl_dot 3 Try.f85) (fr_impl_dot_3 ys out xs n i) [] Kn (lk c_impl_dot 3 Try.f85 [] K) =
  cond (decide (i < n))
    (cond (decide (0 ≤ i))
      ((match xs[Int.toNat i]? with
        | some y0 => cond (decide (0 ≤ i))
          ((match ys[Int.toNat i]? with
            | some y1 => Kn [(1, (.vec (.float .f32) (ys))), (5, (.float .f32 (fadd FloatKind.f32 out (fmul FloatKind.f32 y0 y1)))), (8, (.vec (.float .f32) (xs))), (9, (.int .i64 (n))), (10, (.int .i64 (IntKind.wrap IntKind.i64 (i + 1))))] []
            | none => False))
          (False)
        | none => False))
      (False))
    (K (.float .f32 (out)) []) := by kernel_rfl
theorem w_impl_dot (xs ys : List Nat) (K : V → Heap → Prop) : wpFn c_impl_dot Try.f85 (encAs [.cell (.slice tF), .cell (.slice tF)] (xs, ys, ())) [] K =
  LoopE c_impl_dot ⟨[1, 5, 8, 9, 10], 0, false⟩ (lb c_impl_dot 3 Try.f85) [(1, (.vec (.float .f32) (ys))), (5, (.float .f32 0)), (8, (.vec (.float .f32) (xs))), (9, (.int .i64 ((↑(List.length xs) : Int)))), (10, (.int .i64 0))] [] (lk c_impl_dot 3 Try.f85 [] K) := by kernel_rfl
noncomputable def s_impl_dot : Sm := semG [.cell (.slice tF), .cell (.slice tF)] (fun x => match x with | (xs, ys, _) => decide (xs.length ≤ ys.length)) fun x => match x with | (xs, ys, _) => .float .f32 (dotN xs ys)
theorem ok_impl_dot : FnOk Try.prog 85 s_impl_dot := fnOk_typedG (fnOk_runC (C := c_impl_dot) rfl mixed .nil .nil .nil Try.func85 (by kernel_rfl)) fun (x : ((List Nat) × (List Nat) × Unit)) wf hg K h => by
  obtain ⟨xs, ys, ⟨⟩⟩ := x
  replace hg : (decide (xs.length ≤ ys.length)) = true := hg
  replace h : K (.float .f32 (dotN xs ys)) [] := h
  rw [w_impl_dot xs ys K]
  have wl : xs.length ≤ 9223372036854775807 := wf.1.1
  have hg := of_decide_eq_true hg
  refine loop_run (σ := Nat) (fun i => fr_impl_dot_3 ys (dotT (xs.zip ys) i) xs xs.length i) (fun i => []) (fun i => i ≤ xs.length) (fun i => xs.length - i) ?_ 0 (Nat.zero_le _)
  intro i hi Kn hk
  rw [r_impl_dot_3 ys (dotT (xs.zip ys) i) xs xs.length i Kn K]
  have hz : (xs.zip ys).length = xs.length := by rw [List.length_zip]; omega
  by_cases hlt : i < xs.length
  · have next := hk (i + 1) hlt (by omega)
    rw [dotT_succ (show i < (xs.zip ys).length by omega), List.getElem_zip] at next
    simp only [d_lt hlt, d_0, cond_true, Int.toNat_natCast, get_lt hlt, get_lt (show i < ys.length by omega)]
    rw [i64_of (n := (i : Int) + 1) (by omega) (by omega)]
    exact next
  · have : i = xs.length := by omega
    subst this
    simp only [d_nlt hlt, cond_false]
    rw [show dotT (xs.zip ys) xs.length = dotN xs ys by unfold dotT dotN; rw [← hz, List.take_length]]
    exact h

/-! impl.DotNumbers -/
noncomputable def c_impl_DotNumbers : Ctx := mkC Try.prog tyT [(83, s_impl_listOk), (85, s_impl_dot)] [] [] 19 (fun _ => none) 0
theorem w_impl_DotNumbers (xs ys : List Nat) (K : V → Heap → Prop) : wpFn c_impl_DotNumbers Try.f17 (encAs [.cell (.slice tF), .cell (.slice tF)] (xs, ys, ())) [] K =
  cond (!decide (List.length xs ≤ 256))
    (K (.tuple [(.float .f32 0), (.bool false)]) [])
    (cond ((↑(List.length xs) : Int) != (↑(List.length ys) : Int))
      (K (.tuple [(.float .f32 0), (.bool false)]) [])
      (cond (decide (List.length xs ≤ List.length ys))
        (K (.tuple [(.float .f32 (dotN xs ys)), (.bool true)]) [])
        (False))) := by kernel_rfl
noncomputable def s_impl_DotNumbers : Sm := semT [.cell (.slice tF), .cell (.slice tF)] fun x => match x with | (xs, ys, _) => .tuple [.float .f32 (bif decide (xs.length ≤ 256) && Nat.beq xs.length ys.length then dotN xs ys else 0), .bool (decide (xs.length ≤ 256) && Nat.beq xs.length ys.length)]
theorem ok_impl_DotNumbers : FnOk Try.prog 17 s_impl_DotNumbers := fnOk_typed (fnOk_runC (C := c_impl_DotNumbers) rfl mixed (.cons ok_impl_listOk (.cons ok_impl_dot .nil)) .nil .nil Try.func17 (by kernel_rfl)) fun (x : ((List Nat) × (List Nat) × Unit)) wf K h => by
  obtain ⟨xs, ys, ⟨⟩⟩ := x
  replace h : K (.tuple [.float .f32 (bif decide (xs.length ≤ 256) && Nat.beq xs.length ys.length then dotN xs ys else 0), .bool (decide (xs.length ≤ 256) && Nat.beq xs.length ys.length)]) [] := h
  rw [w_impl_DotNumbers xs ys K]
  rw [bne_cast, bne_nb]
  cases e : decide (xs.length ≤ 256) <;> rw [e] at h
  · exact h
  · cases e2 : Nat.beq xs.length ys.length <;> rw [e2] at h
    · exact h
    · have := Nat.eq_of_beq_eq_true e2
      rw [d_t (show xs.length ≤ ys.length by omega)]
      exact h

--B pairsN List Nat → Nat
def pairsN (xs : List Nat) : Nat := fpairsL xs
/-! impl.sumPairs -/
noncomputable def sr_impl_sumPairs (N : Nat) : Sm := semG [.cell (.slice tF)] (fun x => match x with | (xs, _) => decide (xs.length < N) && decide (xs.length < 1000000)) fun x => match x with | (xs, _) => .float .f32 (pairsN xs)
noncomputable def c_impl_sumPairs (N : Nat) : Ctx := mkC Try.prog tyT [(86, sr_impl_sumPairs N)] [] [] 26 (fun _ => none) 0
theorem w_impl_sumPairs (N : Nat) (xs : List Nat) (K : V → Heap → Prop) : wpFn (c_impl_sumPairs N) Try.f86 (encAs [.cell (.slice tF)] (xs, ())) [] K =
  cond ((↑(List.length xs) : Int) == 0)
    (K (.float .f32 0) [])
    (cond ((↑(List.length xs) : Int) == 1)
      ((match xs[0]? with
        | some y0 => K (.float .f32 (y0)) []
        | none => False))
      (cond (decide (0 ≤ 0) && (decide (0 ≤ IntKind.wrap IntKind.i64 (Int.tdiv (IntKind.wrap IntKind.i64 ((↑(List.length xs) : Int) + 1)) 2)) && decide (IntKind.wrap IntKind.i64 (Int.tdiv (IntKind.wrap IntKind.i64 ((↑(List.length xs) : Int) + 1)) 2) ≤ (↑(List.length xs) : Int))))
        (cond (decide (List.length (List.drop 0 (List.take (Int.toNat (IntKind.wrap IntKind.i64 (Int.tdiv (IntKind.wrap IntKind.i64 ((↑(List.length xs) : Int) + 1)) 2))) xs)) < N) && decide (List.length (List.drop 0 (List.take (Int.toNat (IntKind.wrap IntKind.i64 (Int.tdiv (IntKind.wrap IntKind.i64 ((↑(List.length xs) : Int) + 1)) 2))) xs)) < 1000000))
          (cond (decide (0 ≤ IntKind.wrap IntKind.i64 (Int.tdiv (IntKind.wrap IntKind.i64 ((↑(List.length xs) : Int) + 1)) 2)) && (decide (IntKind.wrap IntKind.i64 (Int.tdiv (IntKind.wrap IntKind.i64 ((↑(List.length xs) : Int) + 1)) 2) ≤ (↑(List.length xs) : Int)) && decide ((↑(List.length xs) : Int) ≤ (↑(List.length xs) : Int))))
            (cond (decide (List.length (List.drop (Int.toNat (IntKind.wrap IntKind.i64 (Int.tdiv (IntKind.wrap IntKind.i64 ((↑(List.length xs) : Int) + 1)) 2))) (List.take (Int.toNat (↑(List.length xs) : Int)) xs)) < N) && decide (List.length (List.drop (Int.toNat (IntKind.wrap IntKind.i64 (Int.tdiv (IntKind.wrap IntKind.i64 ((↑(List.length xs) : Int) + 1)) 2))) (List.take (Int.toNat (↑(List.length xs) : Int)) xs)) < 1000000))
              (K (.float .f32 (fadd FloatKind.f32 (pairsN (List.drop 0 (List.take (Int.toNat (IntKind.wrap IntKind.i64 (Int.tdiv (IntKind.wrap IntKind.i64 ((↑(List.length xs) : Int) + 1)) 2))) xs))) (pairsN (List.drop (Int.toNat (IntKind.wrap IntKind.i64 (Int.tdiv (IntKind.wrap IntKind.i64 ((↑(List.length xs) : Int) + 1)) 2))) (List.take (Int.toNat (↑(List.length xs) : Int)) xs))))) [])
              (False))
            (False))
          (False))
        (False))) := by kernel_rfl
theorem okr_impl_sumPairs : ∀ N, FnOk Try.prog 86 (sr_impl_sumPairs N)
| 0 => fnOk_never fun _ => rfl
| N + 1 => fnOk_typedG (fnOk_runC (C := c_impl_sumPairs N) rfl mixed (.cons (okr_impl_sumPairs N) .nil) .nil .nil Try.func86 (by kernel_rfl)) fun (x : ((List Nat) × Unit)) wf hg K h => by
  obtain ⟨xs, ⟨⟩⟩ := x
  replace hg : (decide (xs.length < (N + 1)) && decide (xs.length < 1000000)) = true := hg
  replace h : K (.float .f32 (pairsN xs)) [] := h
  rw [w_impl_sumPairs N xs K]
  simp only [Bool.and_eq_true, decide_eq_true_eq] at hg
  by_cases h0 : xs.length = 0
  · have : xs = [] := List.length_eq_zero_iff.1 h0
    subst this
    exact h
  · by_cases h1 : xs.length = 1
    · obtain ⟨x, rfl⟩ := List.length_eq_one_iff.1 h1
      exact h
    · rw [beq_eq_false_iff_ne.2 (show ((xs.length : Nat) : Int) ≠ 0 by omega), beq_eq_false_iff_ne.2 (show ((xs.length : Nat) : Int) ≠ 1 by omega)]
      simp only [cond_false, List.drop_zero, Int.toNat_natCast]
      have e1 : IntKind.i64.wrap (Int.tdiv (IntKind.i64.wrap ((xs.length : Int) + 1)) 2) = (((xs.length + 1) / 2 : Nat) : Int) := by
        rw [i64_of (n := (xs.length : Int) + 1) (by omega) (by omega), show Int.tdiv ((xs.length : Int) + 1) 2 = (((xs.length + 1) / 2 : Nat) : Int) from rfl, i64_of (by omega) (by omega)]
      simp only [e1, Int.toNat_natCast, List.take_length, List.length_take, List.length_drop, d_t (show (0 : Int) ≤ 0 by omega), d_t (show 0 ≤ (((xs.length + 1) / 2 : Nat) : Int) by omega), d_t (show (((xs.length + 1) / 2 : Nat) : Int) ≤ (xs.length : Int) by omega), d_t (show (xs.length : Int) ≤ (xs.length : Int) by omega),
        d_t (show min ((xs.length + 1) / 2) xs.length < N by omega), d_t (show xs.length - (xs.length + 1) / 2 < N by omega), d_t (show min ((xs.length + 1) / 2) xs.length < 1000000 by omega), d_t (show xs.length - (xs.length + 1) / 2 < 1000000 by omega), Bool.and_self, cond_true]
      have e2 : pairsN xs = _ := fpairsL_two (show 2 ≤ xs.length by omega)
      rw [e2] at h
      exact h
noncomputable abbrev s_impl_sumPairs : Sm := sr_impl_sumPairs 1000
theorem ok_impl_sumPairs : FnOk Try.prog 86 s_impl_sumPairs := okr_impl_sumPairs 1000

/-! impl.SumPairs -/
noncomputable def c_impl_SumPairs : Ctx := mkC Try.prog tyT [(83, s_impl_listOk), (86, s_impl_sumPairs)] [] [] 9 (fun _ => none) 0
theorem w_impl_SumPairs (xs : List Nat) (K : V → Heap → Prop) : wpFn c_impl_SumPairs Try.f18 (encAs [.cell (.slice tF)] (xs, ())) [] K =
  cond (!decide (List.length xs ≤ 256))
    (K (.tuple [(.float .f32 0), (.bool false)]) [])
    (cond (decide (List.length xs < 1000) && decide (List.length xs < 1000000))
      (K (.tuple [(.float .f32 (pairsN xs)), (.bool true)]) [])
      (False)) := by kernel_rfl
noncomputable def s_impl_SumPairs : Sm := semT [.cell (.slice tF)] fun x => match x with | (xs, _) => .tuple [.float .f32 (bif decide (xs.length ≤ 256) then pairsN xs else 0), .bool (decide (xs.length ≤ 256))]
theorem ok_impl_SumPairs : FnOk Try.prog 18 s_impl_SumPairs := fnOk_typed (fnOk_runC (C := c_impl_SumPairs) rfl mixed (.cons ok_impl_listOk (.cons ok_impl_sumPairs .nil)) .nil .nil Try.func18 (by kernel_rfl)) fun (x : ((List Nat) × Unit)) wf K h => by
  obtain ⟨xs, ⟨⟩⟩ := x
  replace h : K (.tuple [.float .f32 (bif decide (xs.length ≤ 256) then pairsN xs else 0), .bool (decide (xs.length ≤ 256))]) [] := h
  rw [w_impl_SumPairs xs K]
  cases e : decide (xs.length ≤ 256) <;> rw [e] at h
  · exact h
  · have := of_decide_eq_true e
    rw [d_t (show xs.length < 1000 by omega), d_t (show xs.length < 1000000 by omega)]
    exact h

--B wideN List Nat → List Nat → Nat
def wideN (xs ys : List Nat) : Nat := (xs.zip ys).foldl (fun a p => fadd .f64 a (fmul .f64 (widen p.1) (widen p.2))) 0
def wideT (ps : List (Nat × Nat)) (i : Nat) : Nat := (ps.take i).foldl (fun a p => fadd .f64 a (fmul .f64 (widen p.1) (widen p.2))) 0
theorem wideT_succ {ps : List (Nat × Nat)} {i : Nat} (h : i < ps.length) : wideT ps (i + 1) = fadd .f64 (wideT ps i) (fmul .f64 (widen (ps[i]'h).1) (widen (ps[i]'h).2)) := by
  unfold wideT
  rw [take_one h, List.foldl_append]; rfl
/-! impl.DotWide -/
noncomputable def a_impl_DotWide : Nat → Option Ann := fun n => bif Nat.beq n 5 then some ⟨[1,6,19,20,21],0,false⟩ else none
noncomputable def c_impl_DotWide : Ctx := mkC Try.prog tyT [(83, s_impl_listOk)] [] [] 39 a_impl_DotWide 0
noncomputable def fr_impl_DotWide_5 (ys : List Nat) (out : Nat) (xs : List Nat) (n i : Int) : Fr := [(1, .vec tF ys), (6, .float .f64 out), (19, .vec tF xs), (20, .int .i64 n), (21, .int .i64 i)]
theorem r_impl_DotWide_5 (ys : List Nat) (out : Nat) (xs : List Nat) (n i : Int) (Kn : Fr → Heap → Prop) (K : V → Heap → Prop) : round c_impl_DotWide ⟨[1,6,19,20,21],0,false⟩ (lb c_impl_DotWide 5 Try.f21) (fr_impl_DotWide_5 ys out xs n i) [] Kn (lk c_impl_DotWide 5 Try.f21 [] K) =
  cond (decide (i < n))
    (cond (decide (0 ≤ i))
      ((match xs[Int.toNat i]? with
        | some y0 => cond (decide (0 ≤ i))
          ((match ys[Int.toNat i]? with
            | some y1 => Kn [(1, (.vec (.float .f32) (ys))), (6, (.float .f64 (fadd FloatKind.f64 out (fmul FloatKind.f64 (widen y0) (widen y1))))), (19, (.vec (.float .f32) (xs))), (20, (.int .i64 (n))), (21, (.int .i64 (IntKind.wrap IntKind.i64 (i + 1))))] []
            | none => False))
          (False)
        | none => False))
      (False))
    (cond (ovf out)
      (K (.tuple [.undef, (.bool true)]) [])
      (K (.tuple [(.float .f32 (narrow out)), (.bool true)]) [])) := by kernel_rfl
theorem w_impl_DotWide (xs ys : List Nat) (K : V → Heap → Prop) : wpFn c_impl_DotWide Try.f21 (encAs [.cell (.slice tF), .cell (.slice tF)] (xs, ys, ())) [] K =
  cond (!decide (List.length xs ≤ 256))
    (K (.tuple [(.float .f32 0), (.bool false)]) [])
    (cond ((↑(List.length xs) : Int) != (↑(List.length ys) : Int))
      (K (.tuple [(.float .f32 0), (.bool false)]) [])
      (LoopE c_impl_DotWide ⟨[1, 6, 19, 20, 21], 0, false⟩ (lb c_impl_DotWide 5 Try.f21) [(1, (.vec (.float .f32) (ys))), (6, (.float .f64 0)), (19, (.vec (.float .f32) (xs))), (20, (.int .i64 ((↑(List.length xs) : Int)))), (21, (.int .i64 0))] [] (lk c_impl_DotWide 5 Try.f21 [] K))) := by kernel_rfl
noncomputable def s_impl_DotWide : Sm := semG [.cell (.slice tF), .cell (.slice tF)] (fun x => match x with | (xs, ys, _) => !ovf (wideN xs ys)) fun x => match x with | (xs, ys, _) => .tuple [.float .f32 (bif decide (xs.length ≤ 256) && Nat.beq xs.length ys.length then narrow (wideN xs ys) else 0), .bool (decide (xs.length ≤ 256) && Nat.beq xs.length ys.length)]
theorem ok_impl_DotWide : FnOk Try.prog 21 s_impl_DotWide := fnOk_typedG (fnOk_runC (C := c_impl_DotWide) rfl mixed (.cons ok_impl_listOk .nil) .nil .nil Try.func21 (by kernel_rfl)) fun (x : ((List Nat) × (List Nat) × Unit)) wf hg K h => by
  obtain ⟨xs, ys, ⟨⟩⟩ := x
  replace hg : (!ovf (wideN xs ys)) = true := hg
  replace h : K (.tuple [.float .f32 (bif decide (xs.length ≤ 256) && Nat.beq xs.length ys.length then narrow (wideN xs ys) else 0), .bool (decide (xs.length ≤ 256) && Nat.beq xs.length ys.length)]) [] := h
  rw [w_impl_DotWide xs ys K]
  rw [bne_cast, bne_nb]
  have wl : xs.length ≤ 9223372036854775807 := wf.1.1
  cases e : decide (xs.length ≤ 256) <;> rw [e] at h
  · exact h
  · cases e2 : Nat.beq xs.length ys.length <;> rw [e2] at h
    · exact h
    · have hl := Nat.eq_of_beq_eq_true e2
      simp only [Bool.not_true, cond_false]
      refine loop_run (σ := Nat) (fun i => fr_impl_DotWide_5 ys (wideT (xs.zip ys) i) xs xs.length i) (fun i => []) (fun i => i ≤ xs.length) (fun i => xs.length - i) ?_ 0 (Nat.zero_le _)
      intro i hi Kn hk
      rw [r_impl_DotWide_5 ys (wideT (xs.zip ys) i) xs xs.length i Kn K]
      have hz : (xs.zip ys).length = xs.length := by rw [List.length_zip]; omega
      by_cases hlt : i < xs.length
      · have next := hk (i + 1) hlt (by omega)
        rw [wideT_succ (show i < (xs.zip ys).length by omega), List.getElem_zip] at next
        simp only [d_lt hlt, d_0, cond_true, Int.toNat_natCast, get_lt hlt, get_lt (show i < ys.length by omega)]
        rw [i64_of (n := (i : Int) + 1) (by omega) (by omega)]
        exact next
      · have : i = xs.length := by omega
        subst this
        simp only [d_nlt hlt, cond_false]
        rw [show wideT (xs.zip ys) xs.length = wideN xs ys by unfold wideT wideN; rw [← hz, List.take_length]]
        cases eo : ovf (wideN xs ys) <;> rw [eo] at hg
        · exact h
        · cases hg

--B bAtV List Int → Int → Int → Int
def bAtV (xs : List Int) (i n : Int) : Int := bif decide (n ≤ 1) then 0 else bif decide (i < (xs.length : Int)) then ((xs[i.toNat]?).getD 0).tmod n else (i * 37 + 11).tmod n
/-! laws.b10At -/
noncomputable def c_laws_b10At : Ctx := mkC Try.prog tyT [] [] [] 25 (fun _ => none) 0
theorem w_laws_b10At (xs : List Int) (i n : Int) (K : V → Heap → Prop) : wpFn c_laws_b10At Try.f14 (encAs [.cell tB, .cell (.int .i64), .cell (.int .i64)] (xs, i, n, ())) [] K =
  cond (decide (n ≤ 1))
    (K (.int .i64 0) [])
    (cond (decide (i < (↑(List.length xs) : Int)))
      (cond (decide (0 ≤ i))
        ((match xs[Int.toNat i]? with
          | some y0 => cond (n == 0)
            (False)
            (K (.int .i64 (Int.tmod (IntKind.wrap IntKind.i64 y0) n)) [])
          | none => False))
        (False))
      (cond (n == 0)
        (False)
        (K (.int .i64 (Int.tmod (IntKind.wrap IntKind.i64 (IntKind.wrap IntKind.i64 (i * 37) + 11)) n)) []))) := by kernel_rfl
noncomputable def s_laws_b10At : Sm := semG [.cell tB, .cell (.int .i64), .cell (.int .i64)] (fun x => match x with | (xs, i, n, _) => decide (0 ≤ i) && decide (i ≤ 1000)) fun x => match x with | (xs, i, n, _) => .int .i64 (bAtV xs i n)
theorem ok_laws_b10At : FnOk Try.prog 14 s_laws_b10At := fnOk_typedG (fnOk_runC (C := c_laws_b10At) rfl mixed .nil .nil .nil Try.func14 (by kernel_rfl)) fun (x : ((List Int) × (Int) × (Int) × Unit)) wf hg K h => by
  obtain ⟨xs, i, n, ⟨⟩⟩ := x
  replace hg : (decide (0 ≤ i) && decide (i ≤ 1000)) = true := hg
  replace h : K (.int .i64 (bAtV xs i n)) [] := h
  rw [w_laws_b10At xs i n K]
  simp only [Bool.and_eq_true, decide_eq_true_eq] at hg
  unfold bAtV at h
  by_cases h1 : n ≤ 1
  · rw [d_t h1] at h ⊢; exact h
  · rw [d_f h1] at h ⊢
    simp only [cond_false] at h ⊢
    rw [beq_eq_false_iff_ne.2 (show n ≠ 0 by omega)]
    by_cases h2 : i < (xs.length : Int)
    · rw [d_t h2] at h ⊢
      have hl : i.toNat < xs.length := by omega
      rw [d_t hg.1, get_lt hl] at *
      have hb := bytes_of wf.1 _ (List.getElem_mem hl)
      simp only [cond_true, cond_false, Option.getD_some] at h ⊢
      rw [i64_of (by omega) (by omega)]
      exact h
    · rw [d_f h2] at h ⊢
      rw [i64_of (n := i * 37) (by omega) (by omega), i64_of (by omega) (by omega)]
      exact h

/-! exact sums of small integers -/
def isum (ns : List Int) : Int := ns.foldl (· + ·) 0
theorem isum_snoc (ns : List Int) (n : Int) : isum (ns ++ [n]) = isum ns + n := by unfold isum; rw [List.foldl_append]; rfl
theorem ifoldl (ns : List Int) : ∀ a, ns.foldl (· + ·) a = a + isum ns := by
  induction ns with
  | nil => intro a; simp [isum]
  | cons n ns ih =>
    intro a
    have h := ih (0 + n)
    unfold isum
    simp only [List.foldl_cons, ih] at h ⊢
    omega
theorem isum_cons (n : Int) (ns : List Int) : isum (n :: ns) = n + isum ns := by
  show (n :: ns).foldl (· + ·) 0 = _
  rw [List.foldl_cons, ifoldl]; omega
theorem isum_bound {b : Nat} (ns : List Int) (h : ∀ n ∈ ns, n.natAbs ≤ b) : (isum ns).natAbs ≤ b * ns.length := by
  induction ns with
  | nil => simp [isum]
  | cons n ns ih =>
    have h1 := h n (List.mem_cons_self)
    have h2 := ih fun m hm => h m (List.mem_cons_of_mem _ hm)
    rw [isum_cons, List.length_cons, Nat.mul_add]
    omega
theorem rsum_int (ns : List Int) : rsum (ns.map fun n : Int => (n : Rat)) = ((isum ns : Int) : Rat) := by
  induction ns with
  | nil => rfl
  | cons n ns ih => rw [isum_cons, List.map_cons, rsum, ih, Rat.intCast_add]
theorem ql_ints {b : Nat} (hb : b ≤ 16777216) (ns : List Int) (h : ∀ n ∈ ns, n.natAbs ≤ b) : QL 0 b (ns.map FloatKind.f32.nearest) (ns.map fun n : Int => (n : Rat)) := by
  induction ns with
  | nil => exact .nil
  | cons n ns ih =>
    have h1 := h n (List.mem_cons_self)
    exact .cons ⟨ex_int32 (by omega), Gr.int n h1⟩ (ih fun m hm => h m (List.mem_cons_of_mem _ hm))
theorem dot_one (xs : List Nat) (h : ∀ x ∈ xs, Wd x) : dotN xs (List.replicate xs.length 1065353216) = sumN xs := by
  unfold dotN sumN fsumL
  have key : ∀ (xs : List Nat) (a : Nat), (∀ x ∈ xs, Wd x) → (xs.zip (List.replicate xs.length 1065353216)).foldl (fun a p => fadd .f32 a (fmul .f32 p.1 p.2)) a = xs.foldl (fun a x => fadd .f32 a x) a := by
    intro xs
    induction xs with
    | nil => intro a _; rfl
    | cons x xs ih =>
      intro a h
      have h1 := h x (List.mem_cons_self)
      simp only [List.length_cons, List.replicate_succ, List.zip_cons_cons, List.foldl_cons, fmul_one h1.1 h1.2]
      exact ih _ fun m hm => h m (List.mem_cons_of_mem _ hm)
  exact key xs 0 h
theorem dot_sq {b : Nat} (ns : List Int) (h : ∀ n ∈ ns, n.natAbs ≤ b) (hb : b * b * ns.length ≤ 16777216) (hb2 : b * b ≤ 16777216) (hb3 : b ≤ 16777216) :
    Q 0 (b * b * ns.length) (dotN (ns.map FloatKind.f32.nearest) (ns.map FloatKind.f32.nearest)) ((isum (ns.map fun n => n * n) : Int) : Rat) := by
  have e : dotN (ns.map FloatKind.f32.nearest) (ns.map FloatKind.f32.nearest) = fsumL (ns.map fun n => fmul .f32 (FloatKind.f32.nearest n) (FloatKind.f32.nearest n)) := by
    unfold dotN fsumL
    rw [List.zip_map', List.foldl_map, List.foldl_map]
  have q : ∀ (ns : List Int), (∀ n ∈ ns, n.natAbs ≤ b) → QL 0 (b * b) (ns.map fun n => fmul .f32 (FloatKind.f32.nearest n) (FloatKind.f32.nearest n)) ((ns.map fun n => n * n).map fun n : Int => (n : Rat)) := by
    intro ns
    induction ns with
    | nil => intro _; exact .nil
    | cons n ns ih =>
      intro h
      have h1 := h n (List.mem_cons_self)
      have Qn : Q 0 b (FloatKind.f32.nearest n) (n : Rat) := ⟨ex_int32 (by omega), Gr.int n h1⟩
      exact .cons ((Qn.mul Qn hb2 (by omega)).as (Rat.intCast_mul n n).symm) (ih fun m hm => h m (List.mem_cons_of_mem _ hm))
  rw [e]
  have := (q ns h).sum (by rw [List.length_map]; exact hb)
  rw [List.length_map, rsum_int] at this
  exact this
theorem wide_sq {b : Nat} (ns : List Int) (h : ∀ n ∈ ns, n.natAbs ≤ b) (hb : b * b * ns.length ≤ 16777216) (hb3 : b * b ≤ 16777216) (hb4 : b ≤ 16777216) :
    Ex .f64 (wideN (ns.map FloatKind.f32.nearest) (ns.map FloatKind.f32.nearest)) ((isum (ns.map fun n => n * n) : Int) : Rat) := by
  have key : ∀ (ns : List Int) (a c : Nat) (p : Int), (∀ n ∈ ns, n.natAbs ≤ b) → Ex .f64 a (p : Rat) → p.natAbs ≤ c → c + b * b * ns.length ≤ 16777216 →
      Ex .f64 ((ns.map FloatKind.f32.nearest |>.zip (ns.map FloatKind.f32.nearest)).foldl (fun a q => fadd .f64 a (fmul .f64 (widen q.1) (widen q.2))) a) ((p + isum (ns.map fun n => n * n) : Int) : Rat) := by
    intro ns
    induction ns with
    | nil => intro a c p _ ha _ _; exact ha.cast (by simp [isum])
    | cons n ns ih =>
      intro a c p h ha hp hc
      have h1 := h n (List.mem_cons_self)
      have W := widen_ex (ex_int32 (n := n) (by omega))
      have hn2 : (n * n).natAbs ≤ b * b := by rw [Int.natAbs_mul]; exact Nat.mul_le_mul h1 h1
      rw [List.length_cons, Nat.mul_add] at hc
      have M := (W.mul W ((Gr.int (n * n) hn2).rep64 (by omega) (by omega) |> fun r => by rwa [Rat.intCast_mul] at r)).cast (q := ((n * n : Int) : Rat)) (by rw [Rat.intCast_mul])
      have A := (ha.add M ((Gr.int (p + n * n) (b := c + b * b) (by omega)).rep64 (by omega) (by omega) |> fun r => by rwa [Rat.intCast_add] at r)).cast (q := ((p + n * n : Int) : Rat)) (by rw [Rat.intCast_add])
      have := ih _ (c + b * b) _ (fun m hm => h m (List.mem_cons_of_mem _ hm)) A (by omega) (by omega)
      simp only [List.map_cons, List.zip_cons_cons, List.foldl_cons, isum_cons]
      refine this.cast ?_
      congr 1
      omega
  have := key ns 0 0 0 h (ex_int64 (n := 0) (by decide) |> fun e => (show FloatKind.f64.nearest 0 = 0 by decide +kernel) ▸ e) (by decide) (by omega)
  exact this.cast (by rw [Int.zero_add])
theorem f2i_small : ∀ n : Fin 201, f2i .f32 (FloatKind.f32.nearest ((n : Int) - 100)) .i64 = some ((n : Int) - 100) := by decide +kernel
theorem f2i_int {n : Int} (h : n.natAbs ≤ 100) : f2i .f32 (FloatKind.f32.nearest n) .i64 = some n := by
  have := f2i_small ⟨(n + 100).toNat, by omega⟩
  have e : (((⟨(n + 100).toNat, by omega⟩ : Fin 201) : Nat) : Int) - 100 = n := by
    show (((n + 100).toNat : Nat) : Int) - 100 = n
    omega
  rwa [e] at this
theorem bAt_range {xs : List Int} (hb : bytes xs) {i n : Int} (hi : 0 ≤ i) (hn : 1 ≤ n) : 0 ≤ bAtV xs i n ∧ bAtV xs i n < n := by
  unfold bAtV
  by_cases h1 : n ≤ 1
  · rw [d_t h1]; simp only [cond_true]; omega
  · rw [d_f h1]
    simp only [cond_false]
    by_cases h2 : i < (xs.length : Int)
    · rw [d_t h2]
      have hl : i.toNat < xs.length := by omega
      have := hb _ (List.getElem_mem hl)
      rw [get_lt hl]
      simp only [cond_true, Option.getD_some]
      exact ⟨Int.tmod_nonneg _ this.1, Int.tmod_lt_of_pos _ (by omega)⟩
    · rw [d_f h2]
      exact ⟨Int.tmod_nonneg _ (by omega), Int.tmod_lt_of_pos _ (by omega)⟩

/-! laws.FnSums -/
noncomputable def a_laws_FnSums : Nat → Option Ann := fun n => bif Nat.beq n 8 then some ⟨[1,5,6,7,8,9],1,false⟩ else bif Nat.beq n 29 then some ⟨[5,21,22,23,24,25,26,27,28,29,30,31,32,33,34],0,false⟩ else none
noncomputable def c_laws_FnSums : Ctx := mkC Try.prog tyT [(13, s_laws_b10Long), (14, s_laws_b10At), (15, s_spec_B10Numbers), (16, s_impl_SumNumbers), (17, s_impl_DotNumbers), (18, s_impl_SumPairs), (19, s_spec_SameNumber), (20, s_spec_B10Whole), (21, s_impl_DotWide)] [] [] 230 a_laws_FnSums 0
noncomputable def fr_laws_FnSums_8 (ys : List Int) (cnt : Int) (list ones : List Nat) (sum : Nat) (i : Int) : Fr := [(1, .vec (.int .u8) ys), (5, .int .i64 cnt), (6, .vec tF list), (7, .obj 0 0), (8, .float .f32 sum), (9, .int .i64 i)]
noncomputable def hp_laws_FnSums_8 (ys : List Int) (cnt : Int) (list ones : List Nat) (sum : Nat) (i : Int) : Heap := [.sl 0 tF ones]
theorem r_laws_FnSums_8 (ys : List Int) (cnt : Int) (list ones : List Nat) (sum : Nat) (i : Int) (Kn : Fr → Heap → Prop) (K : V → Heap → Prop) : round c_laws_FnSums ⟨[1,5,6,7,8,9],1,false⟩ (lb c_laws_FnSums 8 Try.f3) (fr_laws_FnSums_8 ys cnt list ones sum i) (hp_laws_FnSums_8 ys cnt list ones sum i) Kn (lk c_laws_FnSums 8 Try.f3 [] K) =
  cond (decide (i < cnt))
    (cond (decide ((List.length ones + 1) * 4 ≤ 140737488355328))
      (cond (decide (0 ≤ i))
        ((match list[Int.toNat i]? with
          | some y0 => Kn [(1, (.vec (.int .u8) (ys))), (5, (.int .i64 (cnt))), (6, (.vec (.float .f32) (list))), (7, (.obj 0 0)), (8, (.float .f32 (fadd FloatKind.f32 sum y0))), (9, (.int .i64 (IntKind.wrap IntKind.i64 (i + 1))))] [(.sl 0 (.float .f32) (ones ++ [1065353216]))]
          | none => False))
        (False))
      (False))
    (cond (decide (0 ≤ 0) && (decide (0 ≤ IntKind.wrap IntKind.i64 (Int.tdiv (IntKind.wrap IntKind.i64 (cnt + 1)) 2)) && decide (IntKind.wrap IntKind.i64 (Int.tdiv (IntKind.wrap IntKind.i64 (cnt + 1)) 2) ≤ (↑(List.length list) : Int))))
      (cond (decide (0 ≤ IntKind.wrap IntKind.i64 (Int.tdiv (IntKind.wrap IntKind.i64 (cnt + 1)) 2)) && (decide (IntKind.wrap IntKind.i64 (Int.tdiv (IntKind.wrap IntKind.i64 (cnt + 1)) 2) ≤ (↑(List.length list) : Int)) && decide ((↑(List.length list) : Int) ≤ (↑(List.length list) : Int))))
        (cond (!decide (List.length list ≤ 256))
          (K (.bool false) [])
          (cond (!(decide (List.length list ≤ 256) && Nat.beq (List.length list) (List.length ones)))
            (K (.bool false) [])
            (cond (!decide (List.length list ≤ 256))
              (K (.bool false) [])
              (cond (!decide (List.length (List.drop 0 (List.take (Int.toNat (IntKind.wrap IntKind.i64 (Int.tdiv (IntKind.wrap IntKind.i64 (cnt + 1)) 2))) list)) ≤ 256))
                (K (.bool false) [])
                (cond (!decide (List.length (List.drop (Int.toNat (IntKind.wrap IntKind.i64 (Int.tdiv (IntKind.wrap IntKind.i64 (cnt + 1)) 2))) (List.take (Int.toNat (↑(List.length list) : Int)) list)) ≤ 256))
                  (K (.bool false) [])
                  (cond (!(bif decide (List.length list ≤ 256) then sumN list else 0) == sum)
                    (K (.bool false) [])
                    (cond (!(bif decide (List.length list ≤ 256) && Nat.beq (List.length list) (List.length ones) then dotN list ones else 0) == sum)
                      (K (.bool false) [])
                      (cond (decide (cnt > 1))
                        (cond (!(bif decide (List.length list ≤ 256) then pairsN list else 0) == fadd FloatKind.f32 (bif decide (List.length (List.drop 0 (List.take (Int.toNat (IntKind.wrap IntKind.i64 (Int.tdiv (IntKind.wrap IntKind.i64 (cnt + 1)) 2))) list)) ≤ 256) then pairsN (List.drop 0 (List.take (Int.toNat (IntKind.wrap IntKind.i64 (Int.tdiv (IntKind.wrap IntKind.i64 (cnt + 1)) 2))) list)) else 0) (bif decide (List.length (List.drop (Int.toNat (IntKind.wrap IntKind.i64 (Int.tdiv (IntKind.wrap IntKind.i64 (cnt + 1)) 2))) (List.take (Int.toNat (↑(List.length list) : Int)) list)) ≤ 256) then pairsN (List.drop (Int.toNat (IntKind.wrap IntKind.i64 (Int.tdiv (IntKind.wrap IntKind.i64 (cnt + 1)) 2))) (List.take (Int.toNat (↑(List.length list) : Int)) list)) else 0))
                          (K (.bool false) [])
                          (cond (decide (cnt ≤ 1000) && (decide (0 ≤ 100) && decide (100 ≤ 1000000)))
                            (cond (decide ((0 + List.length (wholeV 100 (Int.toNat cnt) (ys, 0, 0))) * 4 ≤ 140737488355328))
                              (cond (!ovf (wideN (wholeV 100 (Int.toNat cnt) (ys, 0, 0)) (wholeV 100 (Int.toNat cnt) (ys, 0, 0))))
                                (LoopE c_laws_FnSums ⟨[5, 21, 22, 23, 24, 25, 26, 27, 28, 29, 30, 31, 32, 33, 34], 0, false⟩ (lb c_laws_FnSums 29 Try.f3) [(5, (.int .i64 (cnt))), (21, (.vec (.float .f32) (wholeV 100 (Int.toNat cnt) (ys, 0, 0)))), (22, (.float .f32 (bif decide (List.length (wholeV 100 (Int.toNat cnt) (ys, 0, 0)) ≤ 256) then sumN (wholeV 100 (Int.toNat cnt) (ys, 0, 0)) else 0))), (23, (.bool (decide (List.length (wholeV 100 (Int.toNat cnt) (ys, 0, 0)) ≤ 256)))), (24, (.float .f32 (bif decide (List.length (wholeV 100 (Int.toNat cnt) (ys, 0, 0)) ≤ 256) then pairsN (wholeV 100 (Int.toNat cnt) (ys, 0, 0)) else 0))), (25, (.bool (decide (List.length (wholeV 100 (Int.toNat cnt) (ys, 0, 0)) ≤ 256)))), (26, (.float .f32 (bif decide (List.length ([] ++ wholeV 100 (Int.toNat cnt) (ys, 0, 0)) ≤ 256) then pairsN ([] ++ wholeV 100 (Int.toNat cnt) (ys, 0, 0)) else 0))), (27, (.bool (decide (List.length ([] ++ wholeV 100 (Int.toNat cnt) (ys, 0, 0)) ≤ 256)))), (28, (.float .f32 (bif decide (List.length (wholeV 100 (Int.toNat cnt) (ys, 0, 0)) ≤ 256) && Nat.beq (List.length (wholeV 100 (Int.toNat cnt) (ys, 0, 0))) (List.length (wholeV 100 (Int.toNat cnt) (ys, 0, 0))) then dotN (wholeV 100 (Int.toNat cnt) (ys, 0, 0)) (wholeV 100 (Int.toNat cnt) (ys, 0, 0)) else 0))), (29, (.bool (decide (List.length (wholeV 100 (Int.toNat cnt) (ys, 0, 0)) ≤ 256) && Nat.beq (List.length (wholeV 100 (Int.toNat cnt) (ys, 0, 0))) (List.length (wholeV 100 (Int.toNat cnt) (ys, 0, 0)))))), (30, (.float .f32 (bif decide (List.length (wholeV 100 (Int.toNat cnt) (ys, 0, 0)) ≤ 256) && Nat.beq (List.length (wholeV 100 (Int.toNat cnt) (ys, 0, 0))) (List.length (wholeV 100 (Int.toNat cnt) (ys, 0, 0))) then narrow (wideN (wholeV 100 (Int.toNat cnt) (ys, 0, 0)) (wholeV 100 (Int.toNat cnt) (ys, 0, 0))) else 0))), (31, (.bool (decide (List.length (wholeV 100 (Int.toNat cnt) (ys, 0, 0)) ≤ 256) && Nat.beq (List.length (wholeV 100 (Int.toNat cnt) (ys, 0, 0))) (List.length (wholeV 100 (Int.toNat cnt) (ys, 0, 0)))))), (32, (.int .i64 0)), (33, (.int .i64 0)), (34, (.int .i64 0))] [] (lk c_laws_FnSums 29 Try.f3 [] K))
                                (False))
                              (False))
                            (False)))
                        (cond (decide (cnt ≤ 1000) && (decide (0 ≤ 100) && decide (100 ≤ 1000000)))
                          (cond (decide ((0 + List.length (wholeV 100 (Int.toNat cnt) (ys, 0, 0))) * 4 ≤ 140737488355328))
                            (cond (!ovf (wideN (wholeV 100 (Int.toNat cnt) (ys, 0, 0)) (wholeV 100 (Int.toNat cnt) (ys, 0, 0))))
                              (LoopE c_laws_FnSums ⟨[5, 21, 22, 23, 24, 25, 26, 27, 28, 29, 30, 31, 32, 33, 34], 0, false⟩ (lb c_laws_FnSums 29 Try.f3) [(5, (.int .i64 (cnt))), (21, (.vec (.float .f32) (wholeV 100 (Int.toNat cnt) (ys, 0, 0)))), (22, (.float .f32 (bif decide (List.length (wholeV 100 (Int.toNat cnt) (ys, 0, 0)) ≤ 256) then sumN (wholeV 100 (Int.toNat cnt) (ys, 0, 0)) else 0))), (23, (.bool (decide (List.length (wholeV 100 (Int.toNat cnt) (ys, 0, 0)) ≤ 256)))), (24, (.float .f32 (bif decide (List.length (wholeV 100 (Int.toNat cnt) (ys, 0, 0)) ≤ 256) then pairsN (wholeV 100 (Int.toNat cnt) (ys, 0, 0)) else 0))), (25, (.bool (decide (List.length (wholeV 100 (Int.toNat cnt) (ys, 0, 0)) ≤ 256)))), (26, (.float .f32 (bif decide (List.length ([] ++ wholeV 100 (Int.toNat cnt) (ys, 0, 0)) ≤ 256) then pairsN ([] ++ wholeV 100 (Int.toNat cnt) (ys, 0, 0)) else 0))), (27, (.bool (decide (List.length ([] ++ wholeV 100 (Int.toNat cnt) (ys, 0, 0)) ≤ 256)))), (28, (.float .f32 (bif decide (List.length (wholeV 100 (Int.toNat cnt) (ys, 0, 0)) ≤ 256) && Nat.beq (List.length (wholeV 100 (Int.toNat cnt) (ys, 0, 0))) (List.length (wholeV 100 (Int.toNat cnt) (ys, 0, 0))) then dotN (wholeV 100 (Int.toNat cnt) (ys, 0, 0)) (wholeV 100 (Int.toNat cnt) (ys, 0, 0)) else 0))), (29, (.bool (decide (List.length (wholeV 100 (Int.toNat cnt) (ys, 0, 0)) ≤ 256) && Nat.beq (List.length (wholeV 100 (Int.toNat cnt) (ys, 0, 0))) (List.length (wholeV 100 (Int.toNat cnt) (ys, 0, 0)))))), (30, (.float .f32 (bif decide (List.length (wholeV 100 (Int.toNat cnt) (ys, 0, 0)) ≤ 256) && Nat.beq (List.length (wholeV 100 (Int.toNat cnt) (ys, 0, 0))) (List.length (wholeV 100 (Int.toNat cnt) (ys, 0, 0))) then narrow (wideN (wholeV 100 (Int.toNat cnt) (ys, 0, 0)) (wholeV 100 (Int.toNat cnt) (ys, 0, 0))) else 0))), (31, (.bool (decide (List.length (wholeV 100 (Int.toNat cnt) (ys, 0, 0)) ≤ 256) && Nat.beq (List.length (wholeV 100 (Int.toNat cnt) (ys, 0, 0))) (List.length (wholeV 100 (Int.toNat cnt) (ys, 0, 0)))))), (32, (.int .i64 0)), (33, (.int .i64 0)), (34, (.int .i64 0))] [] (lk c_laws_FnSums 29 Try.f3 [] K))
                              (False))
                            (False))
                          (False))))))))))
        (False))
      (False)) := by kernel_rfl
noncomputable def fr_laws_FnSums_29 (cnt : Int) (whole : List Nat) (c d e f g : Nat) (b1 b2 b3 b4 b5 : Bool) (ex sq i : Int) : Fr := [(5, .int .i64 cnt), (21, .vec tF whole), (22, .float .f32 c), (23, .bool b1), (24, .float .f32 d), (25, .bool b2), (26, .float .f32 e), (27, .bool b3), (28, .float .f32 f), (29, .bool b4), (30, .float .f32 g), (31, .bool b5), (32, .int .i64 ex), (33, .int .i64 sq), (34, .int .i64 i)]
theorem r_laws_FnSums_29 (cnt : Int) (whole : List Nat) (c d e f g : Nat) (b1 b2 b3 b4 b5 : Bool) (ex sq i : Int) (Kn : Fr → Heap → Prop) (K : V → Heap → Prop) : round c_laws_FnSums ⟨[5,21,22,23,24,25,26,27,28,29,30,31,32,33,34],0,false⟩ (lb c_laws_FnSums 29 Try.f3) (fr_laws_FnSums_29 cnt whole c d e f g b1 b2 b3 b4 b5 ex sq i) [] Kn (lk c_laws_FnSums 29 Try.f3 [] K) =
  cond (decide (i < cnt))
    (cond (decide (0 ≤ i))
      ((match whole[Int.toNat i]? with
        | some y0 => (match f2i FloatKind.f32 y0 IntKind.i64 with
          | some n1 => cond (decide (0 ≤ i))
            ((match whole[Int.toNat i]? with
              | some y2 => (match f2i FloatKind.f32 y2 IntKind.i64 with
                | some n3 => cond (decide (0 ≤ i))
                  ((match whole[Int.toNat i]? with
                    | some y4 => (match f2i FloatKind.f32 y4 IntKind.i64 with
                      | some n5 => Kn [(5, (.int .i64 (cnt))), (21, (.vec (.float .f32) (whole))), (22, (.float .f32 (c))), (23, (.bool (b1))), (24, (.float .f32 (d))), (25, (.bool (b2))), (26, (.float .f32 (e))), (27, (.bool (b3))), (28, (.float .f32 (f))), (29, (.bool (b4))), (30, (.float .f32 (g))), (31, (.bool (b5))), (32, (.int .i64 (IntKind.wrap IntKind.i64 (ex + n1)))), (33, (.int .i64 (IntKind.wrap IntKind.i64 (sq + IntKind.wrap IntKind.i64 (n3 * n5))))), (34, (.int .i64 (IntKind.wrap IntKind.i64 (i + 1))))] []
                      | none => False)
                    | none => False))
                  (False)
                | none => cond (decide (0 ≤ i))
                  ((match whole[Int.toNat i]? with
                    | some y6 => (match f2i FloatKind.f32 y6 IntKind.i64 with
                      | some n7 => False
                      | none => False)
                    | none => False))
                  (False))
              | none => False))
            (False)
          | none => False)
        | none => False))
      (False))
    (cond (b1)
      (cond (b2)
        (cond (b3)
          (cond (b4)
            (cond (b5)
              (cond (feq FloatKind.f32 c (FloatKind.nearest FloatKind.f32 ex))
                (cond (feq FloatKind.f32 d c)
                  (cond (feq FloatKind.f32 e c)
                    (cond (feq FloatKind.f32 f (FloatKind.nearest FloatKind.f32 sq))
                      (K (.bool (feq FloatKind.f32 g f)) [])
                      (K (.bool false) []))
                    (K (.bool false) []))
                  (K (.bool false) []))
                (K (.bool false) []))
              (K (.bool false) []))
            (K (.bool false) []))
          (K (.bool false) []))
        (K (.bool false) []))
      (K (.bool false) [])) := by kernel_rfl
theorem w_laws_FnSums (xs ys : List Int) (K : V → Heap → Prop) : wpFn c_laws_FnSums Try.f3 (encAs [.cell tB, .cell tB] (xs, ys, ())) [] K =
  cond (decide (1048576 < List.length xs) || decide (1048576 < List.length ys))
    (K (.bool true) [])
    (cond (decide (bAtV xs 0 20 ≤ 1000))
      (LoopE c_laws_FnSums ⟨[1, 5, 6, 7, 8, 9], 1, false⟩ (lb c_laws_FnSums 8 Try.f3) [(1, (.vec (.int .u8) (ys))), (5, (.int .i64 (bAtV xs 0 20))), (6, (.vec (.float .f32) (drawsV (pickV (xs, 0, 0) 4 == 0) (Int.toNat (bAtV xs 0 20)) (pickS (xs, 0, 0) 4)))), (7, (.obj 0 0)), (8, (.float .f32 0)), (9, (.int .i64 0))] [(.sl 0 (.float .f32) ([]))] (lk c_laws_FnSums 8 Try.f3 [] K))
      (False)) := by kernel_rfl
noncomputable def s_laws_FnSums : Sm := semT [.cell tB, .cell tB] fun x => match x with | (xs, ys, _) => .bool true
theorem ok_laws_FnSums : FnOk Try.prog 3 s_laws_FnSums := fnOk_typed (fnOk_runC (C := c_laws_FnSums) rfl mixed (.cons ok_laws_b10Long (.cons ok_laws_b10At (.cons ok_spec_B10Numbers (.cons ok_impl_SumNumbers (.cons ok_impl_DotNumbers (.cons ok_impl_SumPairs (.cons ok_spec_SameNumber (.cons ok_spec_B10Whole (.cons ok_impl_DotWide .nil))))))))) .nil .nil Try.func3 (by kernel_rfl)) fun (x : ((List Int) × (List Int) × Unit)) wf K h => by
  obtain ⟨xs, ys, ⟨⟩⟩ := x
  replace h : K (.bool true) [] := h
  rw [w_laws_FnSums xs ys K]
  cases e0 : decide (1048576 < xs.length) || decide (1048576 < ys.length) with
  | true => exact h
  | false =>
    simp only [cond_false]
    have hbx : bytes xs := bytes_of wf.1
    have hby : bytes ys := bytes_of wf.2.1
    have hr := bAt_range hbx (i := 0) (n := 20) (by omega) (by omega)
    rw [d_t (show bAtV xs 0 20 ≤ 1000 by omega)]
    simp only [cond_true]
    have hw := wd_draws (pickV (xs, 0, 0) 4 == 0) (bAtV xs 0 20).toNat (pickS (xs, 0, 0) 4)
    have hl := drawsV_length (pickV (xs, 0, 0) 4 == 0) (bAtV xs 0 20).toNat (pickS (xs, 0, 0) 4)
    generalize drawsV (pickV (xs, 0, 0) 4 == 0) (bAtV xs 0 20).toNat (pickS (xs, 0, 0) 4) = list at *
    generalize bAtV xs 0 20 = n at *
    refine loop_run (σ := Nat) (fun i => fr_laws_FnSums_8 ys n list (List.replicate i 1065353216) (sumN (list.take i)) i) (fun i => hp_laws_FnSums_8 ys n list (List.replicate i 1065353216) (sumN (list.take i)) i) (fun i => i ≤ list.length) (fun i => list.length - i) ?_ 0 (Nat.zero_le _)
    intro i hi Kn hk
    rw [r_laws_FnSums_8 ys n list (List.replicate i 1065353216) (sumN (list.take i)) i Kn K]
    by_cases hlt : i < list.length
    · have next := hk (i + 1) hlt (by omega)
      rw [sumN_take hlt, List.replicate_succ'] at next
      simp only [d_t (show (i : Int) < n by omega), d_0, cond_true, Int.toNat_natCast, get_lt hlt, List.length_replicate, d_t (show (i + 1) * 4 ≤ 140737488355328 by omega)]
      rw [i64_of (n := (i : Int) + 1) (by omega) (by omega)]
      exact next
    · have : i = list.length := by omega
      subst this
      have hh : IntKind.i64.wrap (Int.tdiv (IntKind.i64.wrap (n + 1)) 2) = (((list.length + 1) / 2 : Nat) : Int) := by
        rw [i64_of (n := n + 1) (by omega) (by omega), show n + 1 = ((list.length + 1 : Nat) : Int) by omega, show Int.tdiv ((list.length + 1 : Nat) : Int) 2 = (((list.length + 1) / 2 : Nat) : Int) from rfl, i64_of (by omega) (by omega)]
      simp only [d_f (show ¬ ((list.length : Nat) : Int) < n by omega), cond_false, hh, Int.toNat_natCast, List.take_length, List.length_take, List.length_drop, List.length_replicate, List.drop_zero, show decide ((0 : Int) ≤ 0) = true from rfl, show decide ((0 : Int) ≤ 100) = true from rfl, show decide ((100 : Int) ≤ 1000000) = true from rfl, List.nil_append, d_t (show 0 ≤ (((list.length + 1) / 2 : Nat) : Int) by omega), d_t (show (((list.length + 1) / 2 : Nat) : Int) ≤ (list.length : Int) by omega), d_t (show (list.length : Int) ≤ (list.length : Int) by omega),
        d_t (show list.length ≤ 256 by omega), d_t (show min ((list.length + 1) / 2) list.length ≤ 256 by omega), d_t (show list.length - (list.length + 1) / 2 ≤ 256 by omega), nbeq_t rfl, dot_one list hw, Bool.and_self, Bool.not_true, cond_true, beq_self_eq_true,
        d_t (show n ≤ 1000 by omega), wholeV_length, d_t (show (0 + n.toNat) * 4 ≤ 140737488355328 by omega), d_t (show n.toNat ≤ 256 by omega)]
      have hpp : 1 < n → pairsN list = fadd .f32 (pairsN (list.take ((list.length + 1) / 2))) (pairsN (list.drop ((list.length + 1) / 2))) := fun h1 => fpairsL_two (by omega)
      have hin := wholeI_range (m := 100) (by omega) (s := (ys, 0, 0)) hby n.toNat
      have hil := wholeI_length 100 n.toNat (ys, 0, 0)
      have tail : cond (!ovf (wideN (wholeV 100 n.toNat (ys, 0, 0)) (wholeV 100 n.toNat (ys, 0, 0))))
          (LoopE c_laws_FnSums ⟨[5, 21, 22, 23, 24, 25, 26, 27, 28, 29, 30, 31, 32, 33, 34], 0, false⟩ (lb c_laws_FnSums 29 Try.f3) [(5, (.int .i64 n)), (21, (.vec tF (wholeV 100 n.toNat (ys, 0, 0)))), (22, (.float .f32 (sumN (wholeV 100 n.toNat (ys, 0, 0))))), (23, .bool true), (24, (.float .f32 (pairsN (wholeV 100 n.toNat (ys, 0, 0))))), (25, .bool true), (26, (.float .f32 (pairsN (wholeV 100 n.toNat (ys, 0, 0))))), (27, .bool true), (28, (.float .f32 (dotN (wholeV 100 n.toNat (ys, 0, 0)) (wholeV 100 n.toNat (ys, 0, 0))))), (29, .bool true), (30, (.float .f32 (narrow (wideN (wholeV 100 n.toNat (ys, 0, 0)) (wholeV 100 n.toNat (ys, 0, 0)))))), (31, .bool true), (32, .int .i64 0), (33, .int .i64 0), (34, .int .i64 0)] [] (lk c_laws_FnSums 29 Try.f3 [] K)) False := by
        unfold wholeV
        generalize wholeI 100 n.toNat (ys, 0, 0) = ns at *
        have hin : ∀ x ∈ ns, x.natAbs ≤ 100 := hin
        have S1 := (ql_ints (b := 100) (by decide) ns hin).sum (by rw [List.length_map]; omega)
        have S2 := (ql_ints (b := 100) (by decide) ns hin).pairs _ (Nat.le_refl _) (by rw [List.length_map]; omega)
        have S3 := dot_sq (b := 100) ns hin (by omega) (by decide) (by decide)
        have S4 := wide_sq (b := 100) ns hin (by omega) (by decide) (by decide)
        rw [rsum_int] at S1 S2
        have bq : (isum (ns.map fun n => n * n)).natAbs ≤ 10000 * ns.length := by
          have := isum_bound (b := 10000) (ns.map fun n => n * n) (by
            intro m hm
            obtain ⟨a, ha, rfl⟩ := List.mem_map.1 hm
            have := Nat.mul_le_mul (hin a ha) (hin a ha)
            rw [Int.natAbs_mul]
            omega)
          rwa [List.length_map] at this
        obtain ⟨N1, N2⟩ := narrow_ex S4 S3.x.rep
        rw [N2]
        simp only [Bool.not_false, cond_true]
        refine loop_run (σ := Nat) (fun i => fr_laws_FnSums_29 n (ns.map FloatKind.f32.nearest) (sumN (ns.map FloatKind.f32.nearest)) (pairsN (ns.map FloatKind.f32.nearest)) (pairsN (ns.map FloatKind.f32.nearest)) (dotN (ns.map FloatKind.f32.nearest) (ns.map FloatKind.f32.nearest)) (narrow (wideN (ns.map FloatKind.f32.nearest) (ns.map FloatKind.f32.nearest))) true true true true true (isum (ns.take i)) (isum ((ns.take i).map fun n => n * n)) i) (fun i => []) (fun i => i ≤ ns.length) (fun i => ns.length - i) ?_ 0 (Nat.zero_le _)
        intro i hi Kn hk
        rw [r_laws_FnSums_29]
        by_cases hlt : i < ns.length
        · have next := hk (i + 1) hlt (by omega)
          have hm : (ns.map FloatKind.f32.nearest)[i]? = some (FloatKind.f32.nearest (ns[i]'hlt)) := by rw [List.getElem?_map, get_lt hlt]; rfl
          have ha := hin _ (List.getElem_mem hlt)
          have b1 := isum_bound (b := 100) (ns.take i) fun m hm => hin m (List.mem_of_mem_take hm)
          have b2 := isum_bound (b := 10000) ((ns.take i).map fun n => n * n) (by
            intro m hm
            obtain ⟨a, ha, rfl⟩ := List.mem_map.1 hm
            have := Nat.mul_le_mul (hin a (List.mem_of_mem_take ha)) (hin a (List.mem_of_mem_take ha))
            rw [Int.natAbs_mul]
            omega)
          rw [List.length_take] at b1
          rw [List.length_map, List.length_take] at b2
          rw [take_one hlt, isum_snoc, List.map_append, List.map_cons, List.map_nil, isum_snoc] at next
          simp only [d_t (show (i : Int) < n by omega), d_0, cond_true, Int.toNat_natCast, hm, f2i_int ha]
          generalize ns[i]'hlt = a at *
          have ha2 : (a * a).natAbs ≤ 10000 := by
            have := Nat.mul_le_mul ha ha
            rw [Int.natAbs_mul]; omega
          rw [i64_of (n := a * a) (by omega) (by omega), i64_of (n := isum (ns.take i) + a) (by omega) (by omega), i64_of (n := isum ((ns.take i).map fun n => n * n) + a * a) (by omega) (by omega), i64_of (n := (i : Int) + 1) (by omega) (by omega)]
          exact next
        · have : i = ns.length := by omega
          subst this
          have b1 := isum_bound (b := 100) ns hin
          rw [d_f (show ¬ ((ns.length : Nat) : Int) < n by omega), List.take_length]
          have F1 : feq .f32 (sumN (ns.map FloatKind.f32.nearest)) (FloatKind.f32.nearest (isum ns)) = true := by
            have := S1.x.feq (ex_int32 (n := isum ns) (by omega))
            rw [d_t rfl] at this; exact this
          have F2 : feq .f32 (pairsN (ns.map FloatKind.f32.nearest)) (sumN (ns.map FloatKind.f32.nearest)) = true := by
            have := S2.x.feq S1.x
            rw [d_t rfl] at this; exact this
          have F3 : feq .f32 (dotN (ns.map FloatKind.f32.nearest) (ns.map FloatKind.f32.nearest)) (FloatKind.f32.nearest (isum (ns.map fun n => n * n))) = true := by
            have := S3.x.feq (ex_int32 (n := isum (ns.map fun n => n * n)) (by omega))
            rw [d_t rfl] at this; exact this
          have F4 : feq .f32 (narrow (wideN (ns.map FloatKind.f32.nearest) (ns.map FloatKind.f32.nearest))) (dotN (ns.map FloatKind.f32.nearest) (ns.map FloatKind.f32.nearest)) = true := by
            have := N1.feq S3.x
            rw [d_t rfl] at this; exact this
          rw [F1, F2, F3, F4]
          exact h
      by_cases h1 : 1 < n
      · rw [d_t (show n > 1 from h1), ← hpp h1]
        simp only [beq_self_eq_true, Bool.not_true, cond_false, cond_true]
        exact tail
      · rw [d_f (show ¬ n > 1 from h1)]
        exact tail

end Go.Proofs.Ytkdkcdkjfiabfaa
