/- Grids joined: the law. -/
import Derived.Test.YtobdbgdgingjjaaJG
set_option linter.unusedVariables false
set_option linter.unusedSimpArgs false
set_option maxRecDepth 100000
namespace Go.Proofs.Ytobdbgdgingjjaa
open Go.Ev
abbrev GridD := V3 × Nat × Int × Int × Int × List Nat
--B okJ Int → GridD → GridD → Bool
def okJ (q : Int) (A B : GridD) : Bool := okG A.1 A.2.1 A.2.2.1 A.2.2.2.1 A.2.2.2.2.1 A.2.2.2.2.2.length && (okG B.1 B.2.1 B.2.2.1 B.2.2.2.1 B.2.2.2.2.1 B.2.2.2.2.2.length && ((A.1 == B.1 && (A.2.1 == B.2.1 && (A.2.2.1 == B.2.2.1 && (A.2.2.2.1 == B.2.2.2.1 && A.2.2.2.2.1 == B.2.2.2.2.1)))) && inR q 5 7))
--B resJ Int → GridD → GridD → PD pG
def resJ (q : Int) (A B : GridD) : PD pG := bif okJ q A B then (A.1, A.2.1, A.2.2.1, A.2.2.2.1, A.2.2.2.2.1, joinL q A.2.2.2.2.2 B.2.2.2.2.2, ()) else ((0, 0, 0), 0, 0, 0, 0, [], ())
/-! plain -/
theorem nan_near (n : Int) (h : n.natAbs ≤ 16777216) : nan .f32 (FloatKind.f32.nearest n) = false := (Fl.ex_int32 h).nan
theorem markF_len (k : Int) (n : Nat) : (markF k n).length = n := by simp [markF]
theorem markF_get (k : Int) {n i : Nat} (h : i < n) : (markF k n)[i]'(by rw [markF_len]; exact h) = FloatKind.f32.nearest (k + i) := by simp [markF]
theorem joinL_len (k : Int) (xs ys : List Nat) (h : xs.length = ys.length) : (joinL k xs ys).length = xs.length := by simp [joinL, h]
theorem joinL_get (k : Int) {xs ys : List Nat} {i : Nat} (hx : i < xs.length) (hy : i < ys.length) : (joinL k xs ys)[i]'(by simp [joinL]; omega) = mixJ k xs[i] ys[i] := by simp [joinL]
theorem over_step {α : Type} {zs xs : List α} {i : Nat} (hz : i < zs.length) (hx : i < xs.length) : (zs.take i ++ xs.drop i).set i (zs[i]'hz) = zs.take (i + 1) ++ xs.drop (i + 1) := by
  have hl : (zs.take i).length = i := by rw [List.length_take]; omega
  rw [List.set_append, if_neg (by omega), hl, Nat.sub_self, take_one hz, List.drop_eq_getElem_cons hx, List.set_cons_zero, List.append_assoc]
  rfl

/-! laws.toFloat32S -/
noncomputable def a_laws_toFloat32S_vg : Nat → Option Ann := fun n => bif Nat.beq n 3 then some ⟨[0,3,4],1,false⟩ else none
noncomputable def c_laws_toFloat32S_vg : Ctx := mkC Try.prog tyT [] [] [] 22 a_laws_toFloat32S_vg 0
noncomputable def gp_laws_toFloat32S_vg : List (List (Option Ty)) := List.map giveR [.cell (.own (tF))]
noncomputable def fr_laws_toFloat32S_vg_3 (xs ys : List (Nat)) (i : Int) : Fr := [(0, .vec (tF) xs), (3, .obj 0 0), (4, .int .i64 i)]
noncomputable def hp_laws_toFloat32S_vg_3 (xs ys : List (Nat)) (i : Int) : Heap := [.sl 0 (tF) ys]
theorem r_laws_toFloat32S_vg_3 (xs ys : List (Nat)) (i : Int) (Kn : Fr → Heap → Prop) (K : V → Heap → Prop) : round c_laws_toFloat32S_vg ⟨[0,3,4],1,false⟩ (lb c_laws_toFloat32S_vg 3 Try.f55) (fr_laws_toFloat32S_vg_3 xs ys i) (hp_laws_toFloat32S_vg_3 xs ys i) Kn (lkG gp_laws_toFloat32S_vg c_laws_toFloat32S_vg 3 Try.f55 [] K) =
  cond (decide (i < (↑(List.length xs) : Int)))
    (cond (decide (0 ≤ i))
      ((match xs[Int.toNat i]? with
        | some y0 => cond (decide (0 ≤ i) && Nat.blt (Int.toNat i) (List.length ys))
          ((match ys[Int.toNat i]? with
            | some x1 => Kn [(0, (.vec (.float .f32) (xs))), (3, (.obj 0 0)), (4, (.int .i64 (IntKind.wrap IntKind.i64 (i + 1))))] [(.sl 0 (.float .f32) (List.set ys (Int.toNat i) y0))]
            | none => False))
          (False)
        | none => False))
      (False))
    (K (.obj 0 0) [(.sl 0 (.float .f32) (ys))]) := by kernel_rfl
theorem w_laws_toFloat32S_vg (xs : List (Nat)) (K : V → Heap → Prop) : wpFnG gp_laws_toFloat32S_vg c_laws_toFloat32S_vg Try.f55 (encAs [.cell (.slice (tF))] (xs, ())) [] K =
  cond (decide (0 ≤ (↑(List.length xs) : Int)) && (decide ((↑(List.length xs) : Int) ≤ (↑(List.length xs) : Int)) && decide ((↑4 : Int) * (↑(List.length xs) : Int) ≤ 281474976710656)))
    (LoopE c_laws_toFloat32S_vg ⟨[0, 3, 4], 1, false⟩ (lb c_laws_toFloat32S_vg 3 Try.f55) [(0, (.vec (.float .f32) (xs))), (3, (.obj 0 0)), (4, (.int .i64 0))] [(.sl 0 (.float .f32) (List.replicate (Int.toNat (↑(List.length xs) : Int)) 0))] (lkG gp_laws_toFloat32S_vg c_laws_toFloat32S_vg 3 Try.f55 [] K))
    (False) := by kernel_rfl
noncomputable def s_laws_toFloat32S_vg : Sm := semV [.cell (.slice (tF))] [.cell (.own (tF))] (fun x => match x with | (xs, _) => decide (xs.length ≤ 1048576)) fun x => match x with | (xs, _) => (xs, ())
theorem ok_laws_toFloat32S_vg : FnOkL Try.prog 55 s_laws_toFloat32S_vg := fnOkO_give (fnOkO_runG (C := c_laws_toFloat32S_vg) gp_laws_toFloat32S_vg rfl mixed .nil .nil .nil Try.func55 (by kernel_rfl)) rfl fun (x : ((List (Nat)) × Unit)) wf hg K h => by
  obtain ⟨xs, ⟨⟩⟩ := x
  replace hg : (decide (xs.length ≤ 1048576)) = true := hg
  replace h : K (tup (valRs [.cell (.own (tF))] ((xs, ())) 0)) (thRs [.cell (.own (tF))] ((xs, ()))) := h
  rw [w_laws_toFloat32S_vg xs K]
  simp only [decide_eq_true_eq] at hg
  skip
  rw [d_0, d_t (Int.le_refl _), d_t (by omega)]
  simp only [Bool.and_self, cond_true, Int.toNat_natCast]
  refine loop_run (σ := Nat) (fun i => fr_laws_toFloat32S_vg_3 xs [] i) (fun i => hp_laws_toFloat32S_vg_3 xs (xs.take i ++ List.replicate (xs.length - i) 0) i) (fun i => i ≤ xs.length) (fun i => xs.length - i) ?_ 0 (Nat.zero_le _)
  intro i hi Kn hk
  rw [show fr_laws_toFloat32S_vg_3 xs [] i = fr_laws_toFloat32S_vg_3 xs (xs.take i ++ List.replicate (xs.length - i) 0) i from rfl, r_laws_toFloat32S_vg_3 xs (xs.take i ++ List.replicate (xs.length - i) 0) i Kn K]
  by_cases hlt : i < xs.length
  · have hl : (xs.take i ++ List.replicate (xs.length - i) 0).length = xs.length := by rw [List.length_append, List.length_take, List.length_replicate]; omega
    have hl' : i < (xs.take i ++ List.replicate (xs.length - i) 0).length := by omega
    simp only [d_lt hlt, d_0, cond_true, Int.toNat_natCast, get_lt hlt, blt_t hl', get_lt hl', Bool.and_self]
    rw [i64_of (by omega) (by omega), copy_step hlt rfl rfl]
    exact hk (i + 1) hlt (by omega)
  · have : i = xs.length := by omega
    subst this
    simp only [d_nlt hlt, cond_false, List.take_length, Nat.sub_self, List.replicate_zero, List.append_nil]
    exact h
noncomputable def s_laws_toFloat32S_vg_vv : Sm := semG [.cell (.slice (tF))] (fun x => match x with | (xs, _) => decide (xs.length ≤ 1048576)) fun x => tup (vecRs [.cell (.own (tF))] (match x with | (xs, _) => (xs, ())))
theorem ok_laws_toFloat32S_vg_vv : FnOk Try.prog 55 s_laws_toFloat32S_vg_vv := fnOk_of_give ok_laws_toFloat32S_vg.1

/-! laws.toGrid -/
noncomputable def c_laws_toGrid : Ctx := mkC Try.prog tyT [(54, s_laws_toVector)] [] [(55, s_laws_toFloat32S_vg)] 25 (fun _ => none) 0
noncomputable def gp_laws_toGrid : List (List (Option Ty)) := List.map giveR [.agg pG]
theorem w_laws_toGrid (a b c d : Nat) (i j k : Int) (xs : List Nat) (K : V → Heap → Prop) : wpFnG gp_laws_toGrid c_laws_toGrid Try.f15 (encAs [.agg tG] (((a, b, c), d, i, j, k, xs), ())) [] K =
  cond (decide (List.length xs ≤ 1048576))
    (K (.agg [(.float .f32 (a)), (.float .f32 (b)), (.float .f32 (c)), (.float .f32 (d)), (.int .i64 (i)), (.int .i64 (j)), (.int .i64 (k)), (.obj 0 0)]) [(.sl 0 (.float .f32) (xs))])
    (False) := by kernel_rfl
noncomputable def s_laws_toGrid : Sm := semV [.agg tG] [.agg pG] (fun x => match x with | (((a, b, c), d, i, j, k, xs), _) => decide (xs.length ≤ 1048576)) fun x => match x with | (((a, b, c), d, i, j, k, xs), _) => (((a, b, c), d, i, j, k, xs, ()), ())
theorem ok_laws_toGrid : FnOkL Try.prog 15 s_laws_toGrid := fnOkO_give (fnOkO_runG (C := c_laws_toGrid) gp_laws_toGrid rfl mixed (.cons ok_laws_toVector .nil) .nil (.cons ok_laws_toFloat32S_vg .nil) Try.func15 (by kernel_rfl)) rfl fun (x : ((((Nat) × (Nat) × (Nat)) × (Nat) × (Int) × (Int) × (Int) × (List Nat)) × Unit)) wf hg K h => by
  obtain ⟨⟨⟨a, b, c⟩, d, i, j, k, xs⟩, ⟨⟩⟩ := x
  replace hg : (decide (xs.length ≤ 1048576)) = true := hg
  replace h : K (tup (valRs [.agg pG] ((((a, b, c), d, i, j, k, xs, ()), ())) 0)) (thRs [.agg pG] ((((a, b, c), d, i, j, k, xs, ()), ()))) := h
  rw [w_laws_toGrid a b c d i j k xs K]
  rw [hg]; exact h
noncomputable def s_laws_toGrid_vv : Sm := semG [.agg tG] (fun x => match x with | (((a, b, c), d, i, j, k, xs), _) => decide (xs.length ≤ 1048576)) fun x => tup (vecRs [.agg pG] (match x with | (((a, b, c), d, i, j, k, xs), _) => (((a, b, c), d, i, j, k, xs, ()), ())))
theorem ok_laws_toGrid_vv : FnOk Try.prog 15 s_laws_toGrid_vv := fnOk_of_give ok_laws_toGrid.1


/-! laws.markFloat32S -/
noncomputable def a_laws_markFloat32S : Nat → Option Ann := fun n => bif Nat.beq n 2 then some ⟨[0,1,5],1,false⟩ else none
noncomputable def c_laws_markFloat32S : Ctx := mkC Try.prog tyT [] [] [] 20 a_laws_markFloat32S 1
noncomputable def fr_laws_markFloat32S_2 (xs : List Nat) (k i : Int) : Fr := [(0, .obj 0 0), (1, .int .i64 k), (5, .int .i64 i)]
noncomputable def hp_laws_markFloat32S_2 (xs : List Nat) (k i : Int) : Heap := [.sl 0 tF xs]
theorem r_laws_markFloat32S_2 (xs : List Nat) (k i : Int) (Kn : Fr → Heap → Prop) (K : V → Heap → Prop) : round c_laws_markFloat32S ⟨[0,1,5],1,false⟩ (lb c_laws_markFloat32S 2 Try.f64) (fr_laws_markFloat32S_2 xs k i) (hp_laws_markFloat32S_2 xs k i) Kn (lkO c_laws_markFloat32S 2 Try.f64 [.box []] K) =
  cond (decide (i < (↑(List.length xs) : Int)))
    (cond (decide (0 ≤ i) && Nat.blt (Int.toNat i) (List.length xs))
      ((match xs[Int.toNat i]? with
        | some x0 => Kn [(0, (.obj 0 0)), (1, (.int .i64 (IntKind.wrap IntKind.i64 (k + 1)))), (5, (.int .i64 (IntKind.wrap IntKind.i64 (i + 1))))] [(.sl 0 (.float .f32) (List.set xs (Int.toNat i) (FloatKind.nearest FloatKind.f32 k)))]
        | none => False))
      (False))
    (K (.int .i64 (k)) [(.sl 0 (.float .f32) (xs))]) := by kernel_rfl
theorem w_laws_markFloat32S (xs : List Nat) (k : Int) (K : V → Heap → Prop) : wpFnO c_laws_markFloat32S Try.f64 (ofCells false (encP [.own tF] (xs, ()) 0) :: encAs [.cell tI] (k, ())) (thP [.own tF] (xs, ())) K =
  LoopE c_laws_markFloat32S ⟨[0, 1, 5], 1, false⟩ (lb c_laws_markFloat32S 2 Try.f64) [(0, (.obj 0 0)), (1, (.int .i64 (k))), (5, (.int .i64 0))] [(.sl 0 (.float .f32) (xs))] (lkO c_laws_markFloat32S 2 Try.f64 [.box []] K) := by kernel_rfl
noncomputable def s_laws_markFloat32S : Sm := semM false [.own tF] [.cell tI] (fun y x => match y, x with | (xs, _), (k, _) => decide (0 ≤ k) && (decide (k ≤ 4194304) && decide (xs.length ≤ 1048576))) fun y x => match y, x with | (xs, _), (k, _) => (.int .i64 (k + xs.length), (markF k xs.length, ()))
theorem ok_laws_markFloat32S : FnOkL Try.prog 64 s_laws_markFloat32S := fnOkO_mark (fnOkO_runC (C := c_laws_markFloat32S) rfl mixed .nil .nil .nil Try.func64 (by kernel_rfl)) (by first | exact .inl rfl | exact .inr ⟨_, rfl⟩) fun (y : ((List Nat) × Unit)) (x : ((Int) × Unit)) wf hg K h => by
  obtain ⟨k, ⟨⟩⟩ := x
  obtain ⟨xs, ⟨⟩⟩ := y
  replace hg : (decide (0 ≤ k) && (decide (k ≤ 4194304) && decide (xs.length ≤ 1048576))) = true := hg
  replace h : K (.int .i64 (k + xs.length)) (thP [.own tF] ((markF k xs.length, ()))) := h
  rw [w_laws_markFloat32S xs k K]
  simp only [Bool.and_eq_true, decide_eq_true_eq] at hg
  obtain ⟨g1, g2, g3⟩ := hg
  have hml := markF_len k xs.length
  refine loop_run (σ := Nat × Int) (fun s => fr_laws_markFloat32S_2 [] s.2 s.1) (fun s => hp_laws_markFloat32S_2 ((markF k xs.length).take s.1 ++ xs.drop s.1) s.2 s.1) (fun s => s.1 ≤ xs.length ∧ s.2 = k + s.1) (fun s => xs.length - s.1) ?_ (0, k) ⟨Nat.zero_le _, by simp⟩
  rintro ⟨i, kk⟩ ⟨hi, hkk⟩ Kn hk
  simp only at hi hkk hk ⊢
  have hl : ((markF k xs.length).take i ++ xs.drop i).length = xs.length := by rw [List.length_append, List.length_take, List.length_drop, hml]; omega
  rw [show fr_laws_markFloat32S_2 [] kk i = fr_laws_markFloat32S_2 ((markF k xs.length).take i ++ xs.drop i) kk i from rfl, r_laws_markFloat32S_2 ((markF k xs.length).take i ++ xs.drop i) kk i Kn K]
  rw [hl]
  by_cases hlt : i < xs.length
  · have hlt' : i < ((markF k xs.length).take i ++ xs.drop i).length := by omega
    simp only [d_lt hlt, d_0, cond_true, Int.toNat_natCast, blt_t hlt, get_lt hlt', Bool.and_self]
    rw [i64_of (by omega) (by omega), i64_of (by omega) (by omega), show FloatKind.nearest FloatKind.f32 kk = (markF k xs.length)[i]'(by omega) by rw [markF_get k hlt, hkk], over_step (by omega) hlt]
    exact hk (i + 1, kk + 1) ⟨hlt, by simp only; omega⟩ (by simp only; omega)
  · have : i = xs.length := by omega
    subst this
    simp only [d_nlt hlt, cond_false]
    rw [List.take_of_length_le (by omega), List.drop_of_length_le (Nat.le_refl _), List.append_nil, hkk]
    exact h

/-! laws.heldFloat32S -/
noncomputable def a_laws_heldFloat32S : Nat → Option Ann := fun n => bif Nat.beq n 2 then some ⟨[0,1,5],0,false⟩ else none
noncomputable def c_laws_heldFloat32S : Ctx := mkC Try.prog tyT [] [] [] 22 a_laws_heldFloat32S 0
noncomputable def fr_laws_heldFloat32S_2 (xs : List Nat) (k i : Int) : Fr := [(0, .vec tF xs), (1, .int .i64 k), (5, .int .i64 i)]
theorem r_laws_heldFloat32S_2 (xs : List Nat) (k i : Int) (Kn : Fr → Heap → Prop) (K : V → Heap → Prop) : round c_laws_heldFloat32S ⟨[0,1,5],0,false⟩ (lb c_laws_heldFloat32S 2 Try.f65) (fr_laws_heldFloat32S_2 xs k i) [] Kn (lk c_laws_heldFloat32S 2 Try.f65 [] K) =
  cond (decide (i < (↑(List.length xs) : Int)))
    (cond (decide (0 ≤ i))
      ((match xs[Int.toNat i]? with
        | some y0 => cond (!feq FloatKind.f32 y0 (FloatKind.nearest FloatKind.f32 k))
          (K (.int .i64 (-1)) [])
          (Kn [(0, (.vec (.float .f32) (xs))), (1, (.int .i64 (IntKind.wrap IntKind.i64 (k + 1)))), (5, (.int .i64 (IntKind.wrap IntKind.i64 (i + 1))))] [])
        | none => False))
      (False))
    (K (.int .i64 (k)) []) := by kernel_rfl
theorem w_laws_heldFloat32S (xs : List Nat) (k : Int) (K : V → Heap → Prop) : wpFn c_laws_heldFloat32S Try.f65 (encAs [.cell (.slice tF), .cell tI] (xs, k, ())) [] K =
  LoopE c_laws_heldFloat32S ⟨[0, 1, 5], 0, false⟩ (lb c_laws_heldFloat32S 2 Try.f65) [(0, (.vec (.float .f32) (xs))), (1, (.int .i64 (k))), (5, (.int .i64 0))] [] (lk c_laws_heldFloat32S 2 Try.f65 [] K) := by kernel_rfl
noncomputable def s_laws_heldFloat32S : Sm := semG [.cell (.slice tF), .cell tI] (fun x => match x with | (xs, k, _) => decide (0 ≤ k) && (decide (k ≤ 4194304) && (decide (xs.length ≤ 1048576) && (xs == markF k xs.length)))) fun x => match x with | (xs, k, _) => .int .i64 (k + xs.length)
theorem ok_laws_heldFloat32S : FnOk Try.prog 65 s_laws_heldFloat32S := fnOk_typedG (fnOk_runC (C := c_laws_heldFloat32S) rfl mixed .nil .nil .nil Try.func65 (by kernel_rfl)) fun (x : ((List Nat) × (Int) × Unit)) wf hg K h => by
  obtain ⟨xs, k, ⟨⟩⟩ := x
  replace hg : (decide (0 ≤ k) && (decide (k ≤ 4194304) && (decide (xs.length ≤ 1048576) && (xs == markF k xs.length)))) = true := hg
  replace h : K (.int .i64 (k + xs.length)) [] := h
  rw [w_laws_heldFloat32S xs k K]
  simp only [Bool.and_eq_true, decide_eq_true_eq, beq_iff_eq] at hg
  obtain ⟨g1, g2, g3, g4⟩ := hg
  refine loop_run (σ := Nat × Int) (fun s => fr_laws_heldFloat32S_2 xs s.2 s.1) (fun s => []) (fun s => s.1 ≤ xs.length ∧ s.2 = k + s.1) (fun s => xs.length - s.1) ?_ (0, k) ⟨Nat.zero_le _, by simp⟩
  rintro ⟨i, kk⟩ ⟨hi, hkk⟩ Kn hk
  simp only at hi hkk hk ⊢
  rw [r_laws_heldFloat32S_2 xs kk i Kn K]
  by_cases hlt : i < xs.length
  · have hx : xs[i]'hlt = FloatKind.nearest FloatKind.f32 kk := by
      have := markF_get k hlt
      rw [hkk, ← this]
      simp only [← g4]
    simp only [d_lt hlt, d_0, cond_true, Int.toNat_natCast, get_lt hlt, hx]
    rw [feq_self, nan_near kk (by omega)]
    simp only [Bool.not_false, Bool.not_true, cond_false]
    rw [i64_of (by omega) (by omega), i64_of (by omega) (by omega)]
    exact hk (i + 1, kk + 1) ⟨hlt, by simp only; omega⟩ (by simp only; omega)
  · have : i = xs.length := by omega
    simp only [d_nlt hlt, cond_false]
    rw [hkk, this]
    exact h

/-! laws.markGrid -/
noncomputable def c_laws_markGrid : Ctx := mkC Try.prog tyT [] [] [(64, s_laws_markFloat32S)] 10 (fun _ => none) 1
theorem w_laws_markGrid (a b c d : Nat) (i j k : Int) (xs : List Nat) (n : Int) (K : V → Heap → Prop) : wpFnO c_laws_markGrid Try.f18 (ofCells true (encP [.imm tV, .imm tF, .imm tI, .imm tI, .imm tI, .own tF] ((a, b, c), d, i, j, k, xs, ()) 0) :: encAs [.cell tI] (n, ())) (thP [.imm tV, .imm tF, .imm tI, .imm tI, .imm tI, .own tF] ((a, b, c), d, i, j, k, xs, ())) K =
  cond (decide (0 ≤ n) && (decide (n ≤ 4194304) && decide (List.length xs ≤ 1048576)))
    (K (.int .i64 (n + (↑(List.length xs) : Int))) [(.sl 0 (.float .f32) (markF n (List.length xs)))])
    (False) := by kernel_rfl
noncomputable def s_laws_markGrid : Sm := semM true [.imm tV, .imm tF, .imm tI, .imm tI, .imm tI, .own tF] [.cell tI] (fun y x => match y, x with | ((a, b, c), d, i, j, k, xs, _), (n, _) => decide (0 ≤ n) && (decide (n ≤ 4194304) && decide (xs.length ≤ 1048576))) fun y x => match y, x with | ((a, b, c), d, i, j, k, xs, _), (n, _) => (.int .i64 (n + xs.length), ((a, b, c), d, i, j, k, markF n xs.length, ()))
theorem ok_laws_markGrid : FnOkL Try.prog 18 s_laws_markGrid := fnOkO_mark (fnOkO_runC (C := c_laws_markGrid) rfl mixed .nil .nil (.cons ok_laws_markFloat32S .nil) Try.func18 (by kernel_rfl)) (by first | exact .inl rfl | exact .inr ⟨_, rfl⟩) fun (y : (((Nat) × (Nat) × (Nat)) × (Nat) × (Int) × (Int) × (Int) × (List Nat) × Unit)) (x : ((Int) × Unit)) wf hg K h => by
  obtain ⟨n, ⟨⟩⟩ := x
  obtain ⟨⟨a, b, c⟩, d, i, j, k, xs, ⟨⟩⟩ := y
  replace hg : (decide (0 ≤ n) && (decide (n ≤ 4194304) && decide (xs.length ≤ 1048576))) = true := hg
  replace h : K (.int .i64 (n + xs.length)) (thP [.imm tV, .imm tF, .imm tI, .imm tI, .imm tI, .own tF] (((a, b, c), d, i, j, k, markF n xs.length, ()))) := h
  rw [w_laws_markGrid a b c d i j k xs n K]
  rw [hg]; exact h

/-! laws.heldGrid -/
noncomputable def c_laws_heldGrid : Ctx := mkC Try.prog tyT [(65, s_laws_heldFloat32S)] [] [] 12 (fun _ => none) 0
theorem w_laws_heldGrid (a b c d : Nat) (i j k : Int) (xs : List Nat) (n : Int) (K : V → Heap → Prop) : wpFn c_laws_heldGrid Try.f19 (encAs [.agg tG, .cell tI] (((a, b, c), d, i, j, k, xs), n, ())) [] K =
  cond (decide (0 ≤ n) && (decide (n ≤ 4194304) && (decide (List.length xs ≤ 1048576) && xs == markF n (List.length xs))))
    (cond (decide (n + (↑(List.length xs) : Int) < 0))
      (K (.int .i64 (-1)) [])
      (K (.int .i64 (n + (↑(List.length xs) : Int))) []))
    (False) := by kernel_rfl
noncomputable def s_laws_heldGrid : Sm := semG [.agg tG, .cell tI] (fun x => match x with | (((a, b, c), d, i, j, k, xs), n, _) => decide (0 ≤ n) && (decide (n ≤ 4194304) && (decide (xs.length ≤ 1048576) && (xs == markF n xs.length)))) fun x => match x with | (((a, b, c), d, i, j, k, xs), n, _) => .int .i64 (n + xs.length)
theorem ok_laws_heldGrid : FnOk Try.prog 19 s_laws_heldGrid := fnOk_typedG (fnOk_runC (C := c_laws_heldGrid) rfl mixed (.cons ok_laws_heldFloat32S .nil) .nil .nil Try.func19 (by kernel_rfl)) fun (x : ((((Nat) × (Nat) × (Nat)) × (Nat) × (Int) × (Int) × (Int) × (List Nat)) × (Int) × Unit)) wf hg K h => by
  obtain ⟨⟨⟨a, b, c⟩, d, i, j, k, xs⟩, n, ⟨⟩⟩ := x
  replace hg : (decide (0 ≤ n) && (decide (n ≤ 4194304) && (decide (xs.length ≤ 1048576) && (xs == markF n xs.length)))) = true := hg
  replace h : K (.int .i64 (n + xs.length)) [] := h
  rw [w_laws_heldGrid a b c d i j k xs n K]
  rw [hg]
  simp only [Bool.and_eq_true, decide_eq_true_eq, beq_iff_eq] at hg
  rw [d_f (by omega)]
  exact h

/-! impl.JoinGrids -/
noncomputable def a_impl_JoinGrids : Nat → Option Ann := fun n => bif Nat.beq n 6 then some ⟨[6,8,9,40,41,42],6,false⟩ else none
noncomputable def c_impl_JoinGrids : Ctx := mkC Try.prog tyT [(56, s_impl_ValidGrid), (57, s_impl_alike), (58, s_impl_in), (60, s_impl_Node_mix)] [] [(59, s_slices_Clone__float32)] 60 a_impl_JoinGrids 0
noncomputable def gp_impl_JoinGrids : List (List (Option Ty)) := List.map giveR [.agg pG, .cell (.imm .bool)]
noncomputable def fr_impl_JoinGrids_6 (a b c d : Nat) (i j k : Int) (xs : List Nat) (a' b' c' d' : Nat) (i' j' k' : Int) (ys : List Nat) (q : Int) (zs : List Nat) (m n : Int) : Fr := [(6, .ptr 2 0), (8, .ptr 3 0), (9, .ptr 4 0), (40, .vec tF ys), (41, .int .i64 m), (42, .int .i64 n)]
noncomputable def hp_impl_JoinGrids_6 (a b c d : Nat) (i j k : Int) (xs : List Nat) (a' b' c' d' : Nat) (i' j' k' : Int) (ys : List Nat) (q : Int) (zs : List Nat) (m n : Int) : Heap := [.box [.float .f32 a, .float .f32 b, .float .f32 c, .float .f32 d, .int .i64 i, .int .i64 j, .int .i64 k, .vec tF xs], .box [.float .f32 a', .float .f32 b', .float .f32 c', .float .f32 d', .int .i64 i', .int .i64 j', .int .i64 k', .vec tF ys], .box [.float .f32 0, .float .f32 0, .float .f32 0, .float .f32 0, .int .i64 0, .int .i64 0, .int .i64 0, .nils], .box [.float .f32 a, .float .f32 b, .float .f32 c, .float .f32 d, .int .i64 i, .int .i64 j, .int .i64 k, .obj 5 0], .box [.int .i64 q, .int .i64 0, .int .i64 0, .nils], .sl 0 tF zs]
theorem r_impl_JoinGrids_6 (a b c d : Nat) (i j k : Int) (xs : List Nat) (a' b' c' d' : Nat) (i' j' k' : Int) (ys : List Nat) (q : Int) (zs : List Nat) (m n : Int) (Kn : Fr → Heap → Prop) (K : V → Heap → Prop) : round c_impl_JoinGrids ⟨[6,8,9,40,41,42],6,false⟩ (lb c_impl_JoinGrids 6 Try.f16) (fr_impl_JoinGrids_6 a b c d i j k xs a' b' c' d' i' j' k' ys q zs m n) (hp_impl_JoinGrids_6 a b c d i j k xs a' b' c' d' i' j' k' ys q zs m n) Kn (lkG gp_impl_JoinGrids c_impl_JoinGrids 6 Try.f16 [] K) =
  cond (decide (n < m))
    (cond (decide (0 ≤ n))
      ((match ys[Int.toNat n]? with
        | some y0 => cond (decide (0 ≤ n) && Nat.blt (Int.toNat n) (List.length zs))
          ((match zs[Int.toNat n]? with
            | some x1 => cond (inR q 5 7)
              (cond (decide (0 ≤ n) && Nat.blt (Int.toNat n) (List.length zs))
                ((match zs[Int.toNat n]? with
                  | some x2 => Kn [(6, (.ptr 2 0)), (8, (.ptr 3 0)), (9, (.ptr 4 0)), (40, (.vec (.float .f32) (ys))), (41, (.int .i64 (m))), (42, (.int .i64 (IntKind.wrap IntKind.i64 (n + 1))))] [(.box [(.float .f32 (a)), (.float .f32 (b)), (.float .f32 (c)), (.float .f32 (d)), (.int .i64 (i)), (.int .i64 (j)), (.int .i64 (k)), (.vec (.float .f32) (xs))]), (.box [(.float .f32 (a')), (.float .f32 (b')), (.float .f32 (c')), (.float .f32 (d')), (.int .i64 (i')), (.int .i64 (j')), (.int .i64 (k')), (.vec (.float .f32) (ys))]), (.box [(.float .f32 0), (.float .f32 0), (.float .f32 0), (.float .f32 0), (.int .i64 0), (.int .i64 0), (.int .i64 0), .nils]), (.box [(.float .f32 (a)), (.float .f32 (b)), (.float .f32 (c)), (.float .f32 (d)), (.int .i64 (i)), (.int .i64 (j)), (.int .i64 (k)), (.obj 5 0)]), (.box [(.int .i64 (q)), (.int .i64 0), (.int .i64 0), .nils]), (.sl 0 (.float .f32) (List.set zs (Int.toNat n) (mixJ q x1 y0)))]
                  | none => False))
                (False))
              (False)
            | none => False))
          (False)
        | none => False))
      (False))
    (K (.tuple [(.agg [(.float .f32 (a)), (.float .f32 (b)), (.float .f32 (c)), (.float .f32 (d)), (.int .i64 (i)), (.int .i64 (j)), (.int .i64 (k)), (.obj 0 0)]), (.bool true)]) [(.sl 0 (.float .f32) (zs))]) := by kernel_rfl
theorem w_impl_JoinGrids (q : Int) (a b c d : Nat) (i j k : Int) (xs : List Nat) (a' b' c' d' : Nat) (i' j' k' : Int) (ys : List Nat) (K : V → Heap → Prop) : wpFnG gp_impl_JoinGrids c_impl_JoinGrids Try.f16 (encAs [.cell tI, .agg tG, .agg tG] (q, ((a, b, c), d, i, j, k, xs), ((a', b', c'), d', i', j', k', ys), ())) [] K =
  cond (!okG (a, b, c) d i j k (List.length xs))
    (K (.tuple [(.agg [(.float .f32 0), (.float .f32 0), (.float .f32 0), (.float .f32 0), (.int .i64 0), (.int .i64 0), (.int .i64 0), (.obj 0 0)]), (.bool false)]) [(.sl 0 (.float .f32) ([]))])
    (cond (!okG (a', b', c') d' i' j' k' (List.length ys))
      (K (.tuple [(.agg [(.float .f32 0), (.float .f32 0), (.float .f32 0), (.float .f32 0), (.int .i64 0), (.int .i64 0), (.int .i64 0), (.obj 0 0)]), (.bool false)]) [(.sl 0 (.float .f32) ([]))])
      (cond (!((a, b, c) == (a', b', c') && (d == d' && (i == i' && (j == j' && k == k')))))
        (K (.tuple [(.agg [(.float .f32 0), (.float .f32 0), (.float .f32 0), (.float .f32 0), (.int .i64 0), (.int .i64 0), (.int .i64 0), (.obj 0 0)]), (.bool false)]) [(.sl 0 (.float .f32) ([]))])
        (cond (!inR q 5 7)
          (K (.tuple [(.agg [(.float .f32 0), (.float .f32 0), (.float .f32 0), (.float .f32 0), (.int .i64 0), (.int .i64 0), (.int .i64 0), (.obj 0 0)]), (.bool false)]) [(.sl 0 (.float .f32) ([]))])
          (cond (decide (List.length xs ≤ 1048576))
            (LoopE c_impl_JoinGrids ⟨[6, 8, 9, 40, 41, 42], 6, false⟩ (lb c_impl_JoinGrids 6 Try.f16) [(6, (.ptr 2 0)), (8, (.ptr 3 0)), (9, (.ptr 4 0)), (40, (.vec (.float .f32) (ys))), (41, (.int .i64 ((↑(List.length ys) : Int)))), (42, (.int .i64 0))] [(.box [(.float .f32 (a)), (.float .f32 (b)), (.float .f32 (c)), (.float .f32 (d)), (.int .i64 (i)), (.int .i64 (j)), (.int .i64 (k)), (.vec (.float .f32) (xs))]), (.box [(.float .f32 (a')), (.float .f32 (b')), (.float .f32 (c')), (.float .f32 (d')), (.int .i64 (i')), (.int .i64 (j')), (.int .i64 (k')), (.vec (.float .f32) (ys))]), (.box [(.float .f32 0), (.float .f32 0), (.float .f32 0), (.float .f32 0), (.int .i64 0), (.int .i64 0), (.int .i64 0), .nils]), (.box [(.float .f32 (a)), (.float .f32 (b)), (.float .f32 (c)), (.float .f32 (d)), (.int .i64 (i)), (.int .i64 (j)), (.int .i64 (k)), (.obj 5 0)]), (.box [(.int .i64 (q)), (.int .i64 0), (.int .i64 0), .nils]), (.sl 0 (.float .f32) (xs))] (lkG gp_impl_JoinGrids c_impl_JoinGrids 6 Try.f16 [] K))
            (False))))) := by kernel_rfl
noncomputable def s_impl_JoinGrids : Sm := semV [.cell tI, .agg tG, .agg tG] [.agg pG, .cell (.imm .bool)] (fun x => match x with | (q, ((a, b, c), d, i, j, k, xs), ((a', b', c'), d', i', j', k', ys), _) => decide (xs.length ≤ 1048576)) fun x => match x with | (q, ((a, b, c), d, i, j, k, xs), ((a', b', c'), d', i', j', k', ys), _) => (resJ q ((a, b, c), d, i, j, k, xs) ((a', b', c'), d', i', j', k', ys), okJ q ((a, b, c), d, i, j, k, xs) ((a', b', c'), d', i', j', k', ys), ())
theorem ok_impl_JoinGrids : FnOkL Try.prog 16 s_impl_JoinGrids := fnOkO_give (fnOkO_runG (C := c_impl_JoinGrids) gp_impl_JoinGrids rfl mixed (.cons ok_impl_ValidGrid (.cons ok_impl_alike (.cons ok_impl_in (.cons ok_impl_Node_mix .nil)))) .nil (.cons ok_slices_Clone__float32 .nil) Try.func16 (by kernel_rfl)) rfl fun (x : ((Int) × (((Nat) × (Nat) × (Nat)) × (Nat) × (Int) × (Int) × (Int) × (List Nat)) × (((Nat) × (Nat) × (Nat)) × (Nat) × (Int) × (Int) × (Int) × (List Nat)) × Unit)) wf hg K h => by
  obtain ⟨q, ⟨⟨a, b, c⟩, d, i, j, k, xs⟩, ⟨⟨a', b', c'⟩, d', i', j', k', ys⟩, ⟨⟩⟩ := x
  replace hg : (decide (xs.length ≤ 1048576)) = true := hg
  replace h : K (tup (valRs [.agg pG, .cell (.imm .bool)] ((resJ q ((a, b, c), d, i, j, k, xs) ((a', b', c'), d', i', j', k', ys), okJ q ((a, b, c), d, i, j, k, xs) ((a', b', c'), d', i', j', k', ys), ())) 0)) (thRs [.agg pG, .cell (.imm .bool)] ((resJ q ((a, b, c), d, i, j, k, xs) ((a', b', c'), d', i', j', k', ys), okJ q ((a, b, c), d, i, j, k, xs) ((a', b', c'), d', i', j', k', ys), ()))) := h
  rw [w_impl_JoinGrids q a b c d i j k xs a' b' c' d' i' j' k' ys K]
  have hx : xs.length ≤ 1048576 := of_decide_eq_true hg
  have fail : okJ q ((a, b, c), d, i, j, k, xs) ((a', b', c'), d', i', j', k', ys) = false → K (.tuple [(.agg [(.float .f32 0), (.float .f32 0), (.float .f32 0), (.float .f32 0), (.int .i64 0), (.int .i64 0), (.int .i64 0), (.obj 0 0)]), (.bool false)]) [(.sl 0 (.float .f32) ([]))] := by
    intro e
    have er : resJ q ((a, b, c), d, i, j, k, xs) ((a', b', c'), d', i', j', k', ys) = ((0, 0, 0), 0, 0, 0, 0, [], ()) := by unfold resJ; rw [e]; rfl
    rw [er, e] at h
    exact h
  cases e1 : okG (a, b, c) d i j k xs.length with
  | false => simp only [Bool.not_false, cond_true]; exact fail (by simp only [okJ, e1, Bool.false_and])
  | true =>
  cases e2 : okG (a', b', c') d' i' j' k' ys.length with
  | false => simp only [Bool.not_false, Bool.not_true, cond_true, cond_false]; exact fail (by simp only [okJ, e2, Bool.false_and, Bool.and_false])
  | true =>
  cases e3 : ((a, b, c) == (a', b', c') && (d == d' && (i == i' && (j == j' && k == k')))) with
  | false => simp only [Bool.not_false, Bool.not_true, cond_true, cond_false]; exact fail (by simp only [okJ, e3, Bool.false_and, Bool.and_false])
  | true =>
  cases e4 : inR q 5 7 with
  | false => simp only [Bool.not_false, Bool.not_true, cond_true, cond_false]; exact fail (by simp only [okJ, e4, Bool.and_false])
  | true =>
  have ok : okJ q ((a, b, c), d, i, j, k, xs) ((a', b', c'), d', i', j', k', ys) = true := by simp only [okJ, e1, e2, e3, e4, Bool.and_self]
  have er : resJ q ((a, b, c), d, i, j, k, xs) ((a', b', c'), d', i', j', k', ys) = ((a, b, c), d, i, j, k, joinL q xs ys, ()) := by unfold resJ; rw [ok]; rfl
  rw [er, ok] at h
  have hlen : xs.length = ys.length := by
    have e1' := e1
    have e2' := e2
    have e3' := e3
    simp only [okG, Bool.and_eq_true, beq_iff_eq] at e1' e2' e3'
    obtain ⟨_, _, _, _, _, _, _, p⟩ := e1'
    obtain ⟨_, _, _, _, _, _, _, p'⟩ := e2'
    obtain ⟨_, _, r1, r2, r3⟩ := e3'
    rw [r1, r2, r3] at p
    omega
  have hjl := joinL_len q xs ys hlen
  rw [d_t hx]
  simp only [Bool.not_true, cond_false, cond_true]
  refine loop_run (σ := Nat) (fun n => fr_impl_JoinGrids_6 a b c d i j k xs a' b' c' d' i' j' k' ys q [] ys.length n) (fun n => hp_impl_JoinGrids_6 a b c d i j k xs a' b' c' d' i' j' k' ys q ((joinL q xs ys).take n ++ xs.drop n) ys.length n) (fun n => n ≤ ys.length) (fun n => ys.length - n) ?_ 0 (Nat.zero_le _)
  intro n hn Kn hk
  obtain ⟨zs, hzs⟩ : ∃ zs, zs = (joinL q xs ys).take n ++ xs.drop n := ⟨_, rfl⟩
  have hzl : zs.length = xs.length := by rw [hzs, List.length_append, List.length_take, List.length_drop, hjl]; omega
  rw [← hzs, show fr_impl_JoinGrids_6 a b c d i j k xs a' b' c' d' i' j' k' ys q [] ys.length n = fr_impl_JoinGrids_6 a b c d i j k xs a' b' c' d' i' j' k' ys q zs ys.length n from rfl, r_impl_JoinGrids_6 a b c d i j k xs a' b' c' d' i' j' k' ys q zs ys.length n Kn K]
  by_cases hlt : n < ys.length
  · have hnx : n < xs.length := by omega
    have hnz : n < zs.length := by omega
    have hz : zs[n]'hnz = xs[n]'hnx := by
      subst hzs
      have hl : ((joinL q xs ys).take n).length = n := by rw [List.length_take]; omega
      rw [List.getElem_append_right (by omega)]
      simp only [hl, Nat.sub_self, List.getElem_drop, Nat.add_zero]
    simp only [d_lt hlt, d_0, cond_true, Int.toNat_natCast, get_lt hlt, get_lt hnz, blt_t hnz, Bool.and_self, e4]
    rw [hz, i64_of (by omega) (by omega), ← joinL_get q hnx hlt, hzs, over_step (by omega) hnx]
    exact hk (n + 1) hlt (by omega)
  · have : n = ys.length := by omega
    subst this
    simp only [d_nlt hlt, cond_false]
    rw [hzs, List.take_of_length_le (by omega), List.drop_of_length_le (by omega), List.append_nil]
    exact h
noncomputable def s_impl_JoinGrids_vv : Sm := semG [.cell tI, .agg tG, .agg tG] (fun x => match x with | (q, ((a, b, c), d, i, j, k, xs), ((a', b', c'), d', i', j', k', ys), _) => decide (xs.length ≤ 1048576)) fun x => tup (vecRs [.agg pG, .cell (.imm .bool)] (match x with | (q, ((a, b, c), d, i, j, k, xs), ((a', b', c'), d', i', j', k', ys), _) => (resJ q ((a, b, c), d, i, j, k, xs) ((a', b', c'), d', i', j', k', ys), okJ q ((a, b, c), d, i, j, k, xs) ((a', b', c'), d', i', j', k', ys), ())))
theorem ok_impl_JoinGrids_vv : FnOk Try.prog 16 s_impl_JoinGrids_vv := fnOk_of_give ok_impl_JoinGrids.1

/-! spec.JoinGrids -/
noncomputable def a_spec_JoinGrids : Nat → Option Ann := fun n => bif Nat.beq n 9 then some ⟨[4,5,6,8,9,10],6,false⟩ else none
noncomputable def c_spec_JoinGrids : Ctx := mkC Try.prog tyT [(50, s_spec_l06Is), (51, s_spec_l00In), (39, s_spec_l01VSame), (52, s_spec_l01Same), (53, s_spec_l02Mixed)] [] [] 88 a_spec_JoinGrids 0
noncomputable def gp_spec_JoinGrids : List (List (Option Ty)) := List.map giveR [.agg pG, .cell (.imm .bool)]
noncomputable def fr_spec_JoinGrids_9 (a b c d : Nat) (i j k : Int) (xs : List Nat) (a' b' c' d' : Nat) (i' j' k' : Int) (ys : List Nat) (q : Int) (zs : List Nat) (n : Int) : Fr := [(4, .ptr 0 0), (5, .ptr 1 0), (6, .ptr 2 0), (8, .ptr 3 0), (9, .ptr 4 0), (10, .int .i64 n)]
noncomputable def hp_spec_JoinGrids_9 (a b c d : Nat) (i j k : Int) (xs : List Nat) (a' b' c' d' : Nat) (i' j' k' : Int) (ys : List Nat) (q : Int) (zs : List Nat) (n : Int) : Heap := [.box [.float .f32 a, .float .f32 b, .float .f32 c, .float .f32 d, .int .i64 i, .int .i64 j, .int .i64 k, .vec tF xs], .box [.float .f32 a', .float .f32 b', .float .f32 c', .float .f32 d', .int .i64 i', .int .i64 j', .int .i64 k', .vec tF ys], .box [.float .f32 0, .float .f32 0, .float .f32 0, .float .f32 0, .int .i64 0, .int .i64 0, .int .i64 0, .nils], .box [.int .i64 q, .int .i64 0, .int .i64 0, .nils], .box [.float .f32 a, .float .f32 b, .float .f32 c, .float .f32 d, .int .i64 i, .int .i64 j, .int .i64 k, .obj 5 0], .sl 0 tF zs]
theorem r_spec_JoinGrids_9 (a b c d : Nat) (i j k : Int) (xs : List Nat) (a' b' c' d' : Nat) (i' j' k' : Int) (ys : List Nat) (q : Int) (zs : List Nat) (n : Int) (Kn : Fr → Heap → Prop) (K : V → Heap → Prop) : round c_spec_JoinGrids ⟨[4,5,6,8,9,10],6,false⟩ (lb c_spec_JoinGrids 9 Try.f14) (fr_spec_JoinGrids_9 a b c d i j k xs a' b' c' d' i' j' k' ys q zs n) (hp_spec_JoinGrids_9 a b c d i j k xs a' b' c' d' i' j' k' ys q zs n) Kn (lkG gp_spec_JoinGrids c_spec_JoinGrids 9 Try.f14 [] K) =
  cond (decide (n < (↑(List.length xs) : Int)))
    (cond (decide (0 ≤ n))
      ((match xs[Int.toNat n]? with
        | some y0 => cond (decide (0 ≤ n))
          ((match ys[Int.toNat n]? with
            | some y1 => cond (inR q 5 7)
              (cond (decide ((List.length zs + 1) * 4 ≤ 140737488355328))
                (Kn [(4, (.ptr 0 0)), (5, (.ptr 1 0)), (6, (.ptr 2 0)), (8, (.ptr 3 0)), (9, (.ptr 4 0)), (10, (.int .i64 (IntKind.wrap IntKind.i64 (n + 1))))] [(.box [(.float .f32 (a)), (.float .f32 (b)), (.float .f32 (c)), (.float .f32 (d)), (.int .i64 (i)), (.int .i64 (j)), (.int .i64 (k)), (.vec (.float .f32) (xs))]), (.box [(.float .f32 (a')), (.float .f32 (b')), (.float .f32 (c')), (.float .f32 (d')), (.int .i64 (i')), (.int .i64 (j')), (.int .i64 (k')), (.vec (.float .f32) (ys))]), (.box [(.float .f32 0), (.float .f32 0), (.float .f32 0), (.float .f32 0), (.int .i64 0), (.int .i64 0), (.int .i64 0), .nils]), (.box [(.int .i64 (q)), (.int .i64 0), (.int .i64 0), .nils]), (.box [(.float .f32 (a)), (.float .f32 (b)), (.float .f32 (c)), (.float .f32 (d)), (.int .i64 (i)), (.int .i64 (j)), (.int .i64 (k)), (.obj 5 0)]), (.sl 0 (.float .f32) (zs ++ [mixJ q y0 y1]))])
                (False))
              (False)
            | none => False))
          (False)
        | none => False))
      (False))
    (K (.tuple [(.agg [(.float .f32 (a)), (.float .f32 (b)), (.float .f32 (c)), (.float .f32 (d)), (.int .i64 (i)), (.int .i64 (j)), (.int .i64 (k)), (.obj 0 0)]), (.bool true)]) [(.sl 0 (.float .f32) (zs))]) := by kernel_rfl
theorem w_spec_JoinGrids (q : Int) (a b c d : Nat) (i j k : Int) (xs : List Nat) (a' b' c' d' : Nat) (i' j' k' : Int) (ys : List Nat) (K : V → Heap → Prop) : wpFnG gp_spec_JoinGrids c_spec_JoinGrids Try.f14 (encAs [.cell tI, .agg tG, .agg tG] (q, ((a, b, c), d, i, j, k, xs), ((a', b', c'), d', i', j', k', ys), ())) [] K =
  cond (!okG (a, b, c) d i j k (List.length xs))
    (K (.tuple [(.agg [(.float .f32 0), (.float .f32 0), (.float .f32 0), (.float .f32 0), (.int .i64 0), (.int .i64 0), (.int .i64 0), (.obj 0 0)]), (.bool false)]) [(.sl 0 (.float .f32) ([]))])
    (cond (!okG (a', b', c') d' i' j' k' (List.length ys))
      (K (.tuple [(.agg [(.float .f32 0), (.float .f32 0), (.float .f32 0), (.float .f32 0), (.int .i64 0), (.int .i64 0), (.int .i64 0), (.obj 0 0)]), (.bool false)]) [(.sl 0 (.float .f32) ([]))])
      (cond (!inR q 5 7)
        (K (.tuple [(.agg [(.float .f32 0), (.float .f32 0), (.float .f32 0), (.float .f32 0), (.int .i64 0), (.int .i64 0), (.int .i64 0), (.obj 0 0)]), (.bool false)]) [(.sl 0 (.float .f32) ([]))])
        (cond (!(a, b, c) == (a', b', c'))
          (K (.tuple [(.agg [(.float .f32 0), (.float .f32 0), (.float .f32 0), (.float .f32 0), (.int .i64 0), (.int .i64 0), (.int .i64 0), (.obj 0 0)]), (.bool false)]) [(.sl 0 (.float .f32) ([]))])
          (cond (!d == d')
            (K (.tuple [(.agg [(.float .f32 0), (.float .f32 0), (.float .f32 0), (.float .f32 0), (.int .i64 0), (.int .i64 0), (.int .i64 0), (.obj 0 0)]), (.bool false)]) [(.sl 0 (.float .f32) ([]))])
            (cond (i != i')
              (K (.tuple [(.agg [(.float .f32 0), (.float .f32 0), (.float .f32 0), (.float .f32 0), (.int .i64 0), (.int .i64 0), (.int .i64 0), (.obj 0 0)]), (.bool false)]) [(.sl 0 (.float .f32) ([]))])
              (cond (j != j')
                (K (.tuple [(.agg [(.float .f32 0), (.float .f32 0), (.float .f32 0), (.float .f32 0), (.int .i64 0), (.int .i64 0), (.int .i64 0), (.obj 0 0)]), (.bool false)]) [(.sl 0 (.float .f32) ([]))])
                (cond (k != k')
                  (K (.tuple [(.agg [(.float .f32 0), (.float .f32 0), (.float .f32 0), (.float .f32 0), (.int .i64 0), (.int .i64 0), (.int .i64 0), (.obj 0 0)]), (.bool false)]) [(.sl 0 (.float .f32) ([]))])
                  (LoopE c_spec_JoinGrids ⟨[4, 5, 6, 8, 9, 10], 6, false⟩ (lb c_spec_JoinGrids 9 Try.f14) [(4, (.ptr 0 0)), (5, (.ptr 1 0)), (6, (.ptr 2 0)), (8, (.ptr 3 0)), (9, (.ptr 4 0)), (10, (.int .i64 0))] [(.box [(.float .f32 (a)), (.float .f32 (b)), (.float .f32 (c)), (.float .f32 (d)), (.int .i64 (i)), (.int .i64 (j)), (.int .i64 (k)), (.vec (.float .f32) (xs))]), (.box [(.float .f32 (a')), (.float .f32 (b')), (.float .f32 (c')), (.float .f32 (d')), (.int .i64 (i')), (.int .i64 (j')), (.int .i64 (k')), (.vec (.float .f32) (ys))]), (.box [(.float .f32 0), (.float .f32 0), (.float .f32 0), (.float .f32 0), (.int .i64 0), (.int .i64 0), (.int .i64 0), .nils]), (.box [(.int .i64 (q)), (.int .i64 0), (.int .i64 0), .nils]), (.box [(.float .f32 (a)), (.float .f32 (b)), (.float .f32 (c)), (.float .f32 (d)), (.int .i64 (i)), (.int .i64 (j)), (.int .i64 (k)), (.obj 5 0)]), (.sl 0 (.float .f32) ([]))] (lkG gp_spec_JoinGrids c_spec_JoinGrids 9 Try.f14 [] K))))))))) := by kernel_rfl
noncomputable def s_spec_JoinGrids : Sm := semV [.cell tI, .agg tG, .agg tG] [.agg pG, .cell (.imm .bool)] (fun x => match x with | (q, ((a, b, c), d, i, j, k, xs), ((a', b', c'), d', i', j', k', ys), _) => decide (xs.length ≤ 1048576)) fun x => match x with | (q, ((a, b, c), d, i, j, k, xs), ((a', b', c'), d', i', j', k', ys), _) => (resJ q ((a, b, c), d, i, j, k, xs) ((a', b', c'), d', i', j', k', ys), okJ q ((a, b, c), d, i, j, k, xs) ((a', b', c'), d', i', j', k', ys), ())
theorem ok_spec_JoinGrids : FnOkL Try.prog 14 s_spec_JoinGrids := fnOkO_give (fnOkO_runG (C := c_spec_JoinGrids) gp_spec_JoinGrids rfl mixed (.cons ok_spec_l06Is (.cons ok_spec_l00In (.cons ok_spec_l01VSame (.cons ok_spec_l01Same (.cons ok_spec_l02Mixed .nil))))) .nil .nil Try.func14 (by kernel_rfl)) rfl fun (x : ((Int) × (((Nat) × (Nat) × (Nat)) × (Nat) × (Int) × (Int) × (Int) × (List Nat)) × (((Nat) × (Nat) × (Nat)) × (Nat) × (Int) × (Int) × (Int) × (List Nat)) × Unit)) wf hg K h => by
  obtain ⟨q, ⟨⟨a, b, c⟩, d, i, j, k, xs⟩, ⟨⟨a', b', c'⟩, d', i', j', k', ys⟩, ⟨⟩⟩ := x
  replace hg : (decide (xs.length ≤ 1048576)) = true := hg
  replace h : K (tup (valRs [.agg pG, .cell (.imm .bool)] ((resJ q ((a, b, c), d, i, j, k, xs) ((a', b', c'), d', i', j', k', ys), okJ q ((a, b, c), d, i, j, k, xs) ((a', b', c'), d', i', j', k', ys), ())) 0)) (thRs [.agg pG, .cell (.imm .bool)] ((resJ q ((a, b, c), d, i, j, k, xs) ((a', b', c'), d', i', j', k', ys), okJ q ((a, b, c), d, i, j, k, xs) ((a', b', c'), d', i', j', k', ys), ()))) := h
  rw [w_spec_JoinGrids q a b c d i j k xs a' b' c' d' i' j' k' ys K]
  have hx : xs.length ≤ 1048576 := of_decide_eq_true hg
  have fail : okJ q ((a, b, c), d, i, j, k, xs) ((a', b', c'), d', i', j', k', ys) = false → K (.tuple [(.agg [(.float .f32 0), (.float .f32 0), (.float .f32 0), (.float .f32 0), (.int .i64 0), (.int .i64 0), (.int .i64 0), (.obj 0 0)]), (.bool false)]) [(.sl 0 (.float .f32) ([]))] := by
    intro e
    have er : resJ q ((a, b, c), d, i, j, k, xs) ((a', b', c'), d', i', j', k', ys) = ((0, 0, 0), 0, 0, 0, 0, [], ()) := by unfold resJ; rw [e]; rfl
    rw [er, e] at h
    exact h
  cases e1 : okG (a, b, c) d i j k xs.length with
  | false => simp only [Bool.not_false, cond_true]; exact fail (by simp only [okJ, e1, Bool.false_and])
  | true =>
  cases e2 : okG (a', b', c') d' i' j' k' ys.length with
  | false => simp only [Bool.not_false, Bool.not_true, cond_true, cond_false]; exact fail (by simp only [okJ, e2, Bool.false_and, Bool.and_false])
  | true =>
  cases e4 : inR q 5 7 with
  | false => simp only [Bool.not_false, Bool.not_true, cond_true, cond_false]; exact fail (by simp only [okJ, e4, Bool.and_false])
  | true =>
  have f5 : ((a, b, c) == (a', b', c') && (d == d' && (i == i' && (j == j' && k == k')))) = false → okJ q ((a, b, c), d, i, j, k, xs) ((a', b', c'), d', i', j', k', ys) = false := fun e => by simp only [okJ, e, Bool.false_and, Bool.and_false]
  simp only [bne, Bool.not_true, cond_false]
  cases x1 : ((a, b, c) == (a', b', c')) with
  | false => simp only [Bool.not_false, cond_true]; exact fail (f5 (by rw [x1]; rfl))
  | true =>
  cases x2 : (d == d') with
  | false => simp only [Bool.not_false, Bool.not_true, cond_true, cond_false]; exact fail (f5 (by rw [x1, x2]; rfl))
  | true =>
  cases x3 : (i == i') with
  | false => simp only [Bool.not_false, Bool.not_true, cond_true, cond_false]; exact fail (f5 (by rw [x1, x2, x3]; rfl))
  | true =>
  cases x4 : (j == j') with
  | false => simp only [Bool.not_false, Bool.not_true, cond_true, cond_false]; exact fail (f5 (by rw [x1, x2, x3, x4]; rfl))
  | true =>
  cases x5 : (k == k') with
  | false => simp only [Bool.not_false, Bool.not_true, cond_true, cond_false]; exact fail (f5 (by rw [x1, x2, x3, x4, x5]; rfl))
  | true =>
  have e3 : ((a, b, c) == (a', b', c') && (d == d' && (i == i' && (j == j' && k == k')))) = true := by rw [x1, x2, x3, x4, x5]; rfl
  have ok : okJ q ((a, b, c), d, i, j, k, xs) ((a', b', c'), d', i', j', k', ys) = true := by simp only [okJ, e1, e2, e3, e4, Bool.and_self]
  have er : resJ q ((a, b, c), d, i, j, k, xs) ((a', b', c'), d', i', j', k', ys) = ((a, b, c), d, i, j, k, joinL q xs ys, ()) := by unfold resJ; rw [ok]; rfl
  rw [er, ok] at h
  have hlen : xs.length = ys.length := by
    have e1' := e1
    have e2' := e2
    have e3' := e3
    simp only [okG, Bool.and_eq_true, beq_iff_eq] at e1' e2' e3'
    obtain ⟨_, _, _, _, _, _, _, p⟩ := e1'
    obtain ⟨_, _, _, _, _, _, _, p'⟩ := e2'
    obtain ⟨_, _, r1, r2, r3⟩ := e3'
    rw [r1, r2, r3] at p
    omega
  have hjl := joinL_len q xs ys hlen
  simp only [Bool.not_true, cond_false, cond_true]
  refine loop_run (σ := Nat) (fun n => fr_spec_JoinGrids_9 a b c d i j k xs a' b' c' d' i' j' k' ys q [] n) (fun n => hp_spec_JoinGrids_9 a b c d i j k xs a' b' c' d' i' j' k' ys q ((joinL q xs ys).take n) n) (fun n => n ≤ xs.length) (fun n => xs.length - n) ?_ 0 (Nat.zero_le _)
  intro n hn Kn hk
  obtain ⟨zs, hzs⟩ : ∃ zs, zs = (joinL q xs ys).take n := ⟨_, rfl⟩
  have hzl : zs.length = n := by rw [hzs, List.length_take, hjl]; omega
  rw [← hzs, show fr_spec_JoinGrids_9 a b c d i j k xs a' b' c' d' i' j' k' ys q [] n = fr_spec_JoinGrids_9 a b c d i j k xs a' b' c' d' i' j' k' ys q zs n from rfl, r_spec_JoinGrids_9 a b c d i j k xs a' b' c' d' i' j' k' ys q zs n Kn K]
  by_cases hlt : n < xs.length
  · have hny : n < ys.length := by omega
    have hm : decide ((zs.length + 1) * 4 ≤ 140737488355328) = true := d_t (by omega)
    simp only [d_lt hlt, d_0, cond_true, Int.toNat_natCast, get_lt hlt, get_lt hny, Bool.and_self, e4, hm]
    rw [i64_of (by omega) (by omega), ← joinL_get q hlt hny, hzs, ← take_one (by omega)]
    exact hk (n + 1) hlt (by omega)
  · have : n = xs.length := by omega
    subst this
    simp only [d_nlt hlt, cond_false]
    rw [hzs, List.take_of_length_le (by omega)]
    exact h
noncomputable def s_spec_JoinGrids_vv : Sm := semG [.cell tI, .agg tG, .agg tG] (fun x => match x with | (q, ((a, b, c), d, i, j, k, xs), ((a', b', c'), d', i', j', k', ys), _) => decide (xs.length ≤ 1048576)) fun x => tup (vecRs [.agg pG, .cell (.imm .bool)] (match x with | (q, ((a, b, c), d, i, j, k, xs), ((a', b', c'), d', i', j', k', ys), _) => (resJ q ((a, b, c), d, i, j, k, xs) ((a', b', c'), d', i', j', k', ys), okJ q ((a, b, c), d, i, j, k, xs) ((a', b', c'), d', i', j', k', ys), ())))
theorem ok_spec_JoinGrids_vv : FnOk Try.prog 14 s_spec_JoinGrids_vv := fnOk_of_give ok_spec_JoinGrids.1

/-! laws.FnExactJoinGrids -/
noncomputable def c_laws_FnExactJoinGrids : Ctx := mkC Try.prog tyT [(13, s_laws_szGrid), (17, s_laws_eqGrid), (19, s_laws_heldGrid)] [] [(15, s_laws_toGrid), (16, s_impl_JoinGrids), (18, s_laws_markGrid)] 124 (fun _ => none) 0 false [(15, s_laws_toGrid_vv), (14, s_spec_JoinGrids_vv), (16, s_impl_JoinGrids_vv)]
theorem w_laws_FnExactJoinGrids (q : Int) (a b c d : Nat) (i j k : Int) (xs : List Nat) (a' b' c' d' : Nat) (i' j' k' : Int) (ys : List Nat) (K : V → Heap → Prop) : wpFn c_laws_FnExactJoinGrids Try.f4 (encAs [.cell tI, .agg tG, .agg tG] (q, ((a, b, c), d, i, j, k, xs), ((a', b', c'), d', i', j', k', ys), ())) [] K =
  cond (decide (szV 1048576 (List.length xs) < 0))
    (K (.bool true) [])
    (cond (decide (szV 1048576 (List.length xs) ≤ 1048576) && decide (0 ≤ szV 1048576 (List.length xs)))
      (cond (decide (szV (szV 1048576 (List.length xs)) (List.length ys) < 0))
        (K (.bool true) [])
        (cond (decide (List.length xs ≤ 1048576))
          (cond (decide (List.length ys ≤ 1048576))
            (cond (decide (List.length xs ≤ 1048576))
              (cond (decide (List.length xs ≤ 1048576))
                (cond (decide (List.length ys ≤ 1048576))
                  (cond (decide (List.length xs ≤ 1048576))
                    (cond (Prod.fst (Prod.fst (resJ q ((a, b, c), d, i, j, k, xs) ((a', b', c'), d', i', j', k', ys))) == Prod.fst (Prod.fst (resJ q ((a, b, c), d, i, j, k, xs) ((a', b', c'), d', i', j', k', ys))) && (Prod.fst (Prod.snd (Prod.fst (resJ q ((a, b, c), d, i, j, k, xs) ((a', b', c'), d', i', j', k', ys)))) == Prod.fst (Prod.snd (Prod.fst (resJ q ((a, b, c), d, i, j, k, xs) ((a', b', c'), d', i', j', k', ys)))) && Prod.snd (Prod.snd (Prod.fst (resJ q ((a, b, c), d, i, j, k, xs) ((a', b', c'), d', i', j', k', ys)))) == Prod.snd (Prod.snd (Prod.fst (resJ q ((a, b, c), d, i, j, k, xs) ((a', b', c'), d', i', j', k', ys))))) && (Prod.fst (Prod.snd (resJ q ((a, b, c), d, i, j, k, xs) ((a', b', c'), d', i', j', k', ys))) == Prod.fst (Prod.snd (resJ q ((a, b, c), d, i, j, k, xs) ((a', b', c'), d', i', j', k', ys))) && (Prod.fst (Prod.snd (Prod.snd (resJ q ((a, b, c), d, i, j, k, xs) ((a', b', c'), d', i', j', k', ys)))) == Prod.fst (Prod.snd (Prod.snd (resJ q ((a, b, c), d, i, j, k, xs) ((a', b', c'), d', i', j', k', ys)))) && (Prod.fst (Prod.snd (Prod.snd (Prod.snd (resJ q ((a, b, c), d, i, j, k, xs) ((a', b', c'), d', i', j', k', ys))))) == Prod.fst (Prod.snd (Prod.snd (Prod.snd (resJ q ((a, b, c), d, i, j, k, xs) ((a', b', c'), d', i', j', k', ys))))) && (Prod.fst (Prod.snd (Prod.snd (Prod.snd (Prod.snd (resJ q ((a, b, c), d, i, j, k, xs) ((a', b', c'), d', i', j', k', ys)))))) == Prod.fst (Prod.snd (Prod.snd (Prod.snd (Prod.snd (resJ q ((a, b, c), d, i, j, k, xs) ((a', b', c'), d', i', j', k', ys)))))) && Prod.fst (Prod.snd (Prod.snd (Prod.snd (Prod.snd (Prod.snd (resJ q ((a, b, c), d, i, j, k, xs) ((a', b', c'), d', i', j', k', ys))))))) == Prod.fst (Prod.snd (Prod.snd (Prod.snd (Prod.snd (Prod.snd (resJ q ((a, b, c), d, i, j, k, xs) ((a', b', c'), d', i', j', k', ys))))))))))))
                      (cond (okJ q ((a, b, c), d, i, j, k, xs) ((a', b', c'), d', i', j', k', ys) != okJ q ((a, b, c), d, i, j, k, xs) ((a', b', c'), d', i', j', k', ys))
                        (K (.bool false) [])
                        (cond (decide (List.length xs ≤ 1048576))
                          (cond (a == a && (b == b && c == c) && (d == d && (i == i && (j == j && (k == k && xs == xs)))))
                            (cond (decide (List.length ys ≤ 1048576))
                              (cond (a' == a' && (b' == b' && c' == c') && (d' == d' && (i' == i' && (j' == j' && (k' == k' && ys == ys)))))
                                (cond (decide (0 ≤ 1) && (decide (1 ≤ 4194304) && decide (List.length xs ≤ 1048576)))
                                  (cond (decide (0 ≤ 1 + (↑(List.length xs) : Int)) && (decide (1 + (↑(List.length xs) : Int) ≤ 4194304) && decide (List.length ys ≤ 1048576)))
                                    (cond (Prod.fst (Prod.fst (resJ q ((a, b, c), d, i, j, k, xs) ((a', b', c'), d', i', j', k', ys))) == Prod.fst (Prod.fst (resJ q ((a, b, c), d, i, j, k, xs) ((a', b', c'), d', i', j', k', ys))) && (Prod.fst (Prod.snd (Prod.fst (resJ q ((a, b, c), d, i, j, k, xs) ((a', b', c'), d', i', j', k', ys)))) == Prod.fst (Prod.snd (Prod.fst (resJ q ((a, b, c), d, i, j, k, xs) ((a', b', c'), d', i', j', k', ys)))) && Prod.snd (Prod.snd (Prod.fst (resJ q ((a, b, c), d, i, j, k, xs) ((a', b', c'), d', i', j', k', ys)))) == Prod.snd (Prod.snd (Prod.fst (resJ q ((a, b, c), d, i, j, k, xs) ((a', b', c'), d', i', j', k', ys))))) && (Prod.fst (Prod.snd (resJ q ((a, b, c), d, i, j, k, xs) ((a', b', c'), d', i', j', k', ys))) == Prod.fst (Prod.snd (resJ q ((a, b, c), d, i, j, k, xs) ((a', b', c'), d', i', j', k', ys))) && (Prod.fst (Prod.snd (Prod.snd (resJ q ((a, b, c), d, i, j, k, xs) ((a', b', c'), d', i', j', k', ys)))) == Prod.fst (Prod.snd (Prod.snd (resJ q ((a, b, c), d, i, j, k, xs) ((a', b', c'), d', i', j', k', ys)))) && (Prod.fst (Prod.snd (Prod.snd (Prod.snd (resJ q ((a, b, c), d, i, j, k, xs) ((a', b', c'), d', i', j', k', ys))))) == Prod.fst (Prod.snd (Prod.snd (Prod.snd (resJ q ((a, b, c), d, i, j, k, xs) ((a', b', c'), d', i', j', k', ys))))) && (Prod.fst (Prod.snd (Prod.snd (Prod.snd (Prod.snd (resJ q ((a, b, c), d, i, j, k, xs) ((a', b', c'), d', i', j', k', ys)))))) == Prod.fst (Prod.snd (Prod.snd (Prod.snd (Prod.snd (resJ q ((a, b, c), d, i, j, k, xs) ((a', b', c'), d', i', j', k', ys)))))) && Prod.fst (Prod.snd (Prod.snd (Prod.snd (Prod.snd (Prod.snd (resJ q ((a, b, c), d, i, j, k, xs) ((a', b', c'), d', i', j', k', ys))))))) == Prod.fst (Prod.snd (Prod.snd (Prod.snd (Prod.snd (Prod.snd (resJ q ((a, b, c), d, i, j, k, xs) ((a', b', c'), d', i', j', k', ys))))))))))))
                                      (cond (okJ q ((a, b, c), d, i, j, k, xs) ((a', b', c'), d', i', j', k', ys) != okJ q ((a, b, c), d, i, j, k, xs) ((a', b', c'), d', i', j', k', ys))
                                        (K (.bool false) [])
                                        (cond (decide (0 ≤ 1) && (decide (1 ≤ 4194304) && decide (List.length (Prod.fst (Prod.snd (Prod.snd (Prod.snd (Prod.snd (Prod.snd (resJ q ((a, b, c), d, i, j, k, xs) ((a', b', c'), d', i', j', k', ys)))))))) ≤ 1048576)))
                                          (cond (decide (0 ≤ 1) && (decide (1 ≤ 4194304) && (decide (List.length (markF 1 (List.length (Prod.fst (Prod.snd (Prod.snd (Prod.snd (Prod.snd (Prod.snd (resJ q ((a, b, c), d, i, j, k, xs) ((a', b', c'), d', i', j', k', ys)))))))))) ≤ 1048576) && markF 1 (List.length (Prod.fst (Prod.snd (Prod.snd (Prod.snd (Prod.snd (Prod.snd (resJ q ((a, b, c), d, i, j, k, xs) ((a', b', c'), d', i', j', k', ys))))))))) == markF 1 (List.length (markF 1 (List.length (Prod.fst (Prod.snd (Prod.snd (Prod.snd (Prod.snd (Prod.snd (resJ q ((a, b, c), d, i, j, k, xs) ((a', b', c'), d', i', j', k', ys))))))))))))))
                                            (cond (1 + (↑(List.length (markF 1 (List.length (Prod.fst (Prod.snd (Prod.snd (Prod.snd (Prod.snd (Prod.snd (resJ q ((a, b, c), d, i, j, k, xs) ((a', b', c'), d', i', j', k', ys))))))))))) : Int) != 1 + (↑(List.length (Prod.fst (Prod.snd (Prod.snd (Prod.snd (Prod.snd (Prod.snd (resJ q ((a, b, c), d, i, j, k, xs) ((a', b', c'), d', i', j', k', ys))))))))) : Int))
                                              (K (.bool false) [])
                                              (cond (decide (List.length xs ≤ 1048576))
                                                (cond (decide (List.length ys ≤ 1048576))
                                                  (cond (decide (List.length xs ≤ 1048576))
                                                    (cond (Prod.fst (Prod.fst (resJ q ((a, b, c), d, i, j, k, xs) ((a', b', c'), d', i', j', k', ys))) == Prod.fst (Prod.fst (resJ q ((a, b, c), d, i, j, k, xs) ((a', b', c'), d', i', j', k', ys))) && (Prod.fst (Prod.snd (Prod.fst (resJ q ((a, b, c), d, i, j, k, xs) ((a', b', c'), d', i', j', k', ys)))) == Prod.fst (Prod.snd (Prod.fst (resJ q ((a, b, c), d, i, j, k, xs) ((a', b', c'), d', i', j', k', ys)))) && Prod.snd (Prod.snd (Prod.fst (resJ q ((a, b, c), d, i, j, k, xs) ((a', b', c'), d', i', j', k', ys)))) == Prod.snd (Prod.snd (Prod.fst (resJ q ((a, b, c), d, i, j, k, xs) ((a', b', c'), d', i', j', k', ys))))) && (Prod.fst (Prod.snd (resJ q ((a, b, c), d, i, j, k, xs) ((a', b', c'), d', i', j', k', ys))) == Prod.fst (Prod.snd (resJ q ((a, b, c), d, i, j, k, xs) ((a', b', c'), d', i', j', k', ys))) && (Prod.fst (Prod.snd (Prod.snd (resJ q ((a, b, c), d, i, j, k, xs) ((a', b', c'), d', i', j', k', ys)))) == Prod.fst (Prod.snd (Prod.snd (resJ q ((a, b, c), d, i, j, k, xs) ((a', b', c'), d', i', j', k', ys)))) && (Prod.fst (Prod.snd (Prod.snd (Prod.snd (resJ q ((a, b, c), d, i, j, k, xs) ((a', b', c'), d', i', j', k', ys))))) == Prod.fst (Prod.snd (Prod.snd (Prod.snd (resJ q ((a, b, c), d, i, j, k, xs) ((a', b', c'), d', i', j', k', ys))))) && (Prod.fst (Prod.snd (Prod.snd (Prod.snd (Prod.snd (resJ q ((a, b, c), d, i, j, k, xs) ((a', b', c'), d', i', j', k', ys)))))) == Prod.fst (Prod.snd (Prod.snd (Prod.snd (Prod.snd (resJ q ((a, b, c), d, i, j, k, xs) ((a', b', c'), d', i', j', k', ys)))))) && Prod.fst (Prod.snd (Prod.snd (Prod.snd (Prod.snd (Prod.snd (resJ q ((a, b, c), d, i, j, k, xs) ((a', b', c'), d', i', j', k', ys))))))) == Prod.fst (Prod.snd (Prod.snd (Prod.snd (Prod.snd (Prod.snd (resJ q ((a, b, c), d, i, j, k, xs) ((a', b', c'), d', i', j', k', ys))))))))))))
                                                      (cond (okJ q ((a, b, c), d, i, j, k, xs) ((a', b', c'), d', i', j', k', ys) != okJ q ((a, b, c), d, i, j, k, xs) ((a', b', c'), d', i', j', k', ys))
                                                        (K (.bool false) [])
                                                        (cond (decide (0 ≤ 1) && (decide (1 ≤ 4194304) && (decide (List.length (markF 1 (List.length (Prod.fst (Prod.snd (Prod.snd (Prod.snd (Prod.snd (Prod.snd (resJ q ((a, b, c), d, i, j, k, xs) ((a', b', c'), d', i', j', k', ys)))))))))) ≤ 1048576) && markF 1 (List.length (Prod.fst (Prod.snd (Prod.snd (Prod.snd (Prod.snd (Prod.snd (resJ q ((a, b, c), d, i, j, k, xs) ((a', b', c'), d', i', j', k', ys))))))))) == markF 1 (List.length (markF 1 (List.length (Prod.fst (Prod.snd (Prod.snd (Prod.snd (Prod.snd (Prod.snd (resJ q ((a, b, c), d, i, j, k, xs) ((a', b', c'), d', i', j', k', ys))))))))))))))
                                                          (cond (1 + (↑(List.length (markF 1 (List.length (Prod.fst (Prod.snd (Prod.snd (Prod.snd (Prod.snd (Prod.snd (resJ q ((a, b, c), d, i, j, k, xs) ((a', b', c'), d', i', j', k', ys))))))))))) : Int) != 1 + (↑(List.length (Prod.fst (Prod.snd (Prod.snd (Prod.snd (Prod.snd (Prod.snd (resJ q ((a, b, c), d, i, j, k, xs) ((a', b', c'), d', i', j', k', ys))))))))) : Int))
                                                            (K (.bool false) [])
                                                            (K (.bool true) []))
                                                          (False)))
                                                      (False))
                                                    (False))
                                                  (False))
                                                (False)))
                                            (False))
                                          (False)))
                                      (False))
                                    (False))
                                  (False))
                                (False))
                              (False))
                            (False))
                          (False)))
                      (False))
                    (False))
                  (False))
                (False))
              (False))
            (False))
          (False)))
      (False)) := by kernel_rfl
noncomputable def s_laws_FnExactJoinGrids : Sm := semT [.cell tI, .agg tG, .agg tG] fun x => match x with | (q, ((a, b, c), d, i, j, k, xs), ((a', b', c'), d', i', j', k', ys), _) => .bool true
theorem ok_laws_FnExactJoinGrids : FnOk Try.prog 4 s_laws_FnExactJoinGrids := fnOk_typed (fnOk_runC (C := c_laws_FnExactJoinGrids) rfl mixed (.cons ok_laws_szGrid (.cons ok_laws_eqGrid (.cons ok_laws_heldGrid .nil))) .nil (.cons ok_laws_toGrid (.cons ok_impl_JoinGrids (.cons ok_laws_markGrid .nil))) Try.func4 (by kernel_rfl) (.cons ok_laws_toGrid_vv (.cons ok_spec_JoinGrids_vv (.cons ok_impl_JoinGrids_vv .nil)))) fun (x : ((Int) × (((Nat) × (Nat) × (Nat)) × (Nat) × (Int) × (Int) × (Int) × (List Nat)) × (((Nat) × (Nat) × (Nat)) × (Nat) × (Int) × (Int) × (Int) × (List Nat)) × Unit)) wf K h => by
  obtain ⟨q, ⟨⟨a, b, c⟩, d, i, j, k, xs⟩, ⟨⟨a', b', c'⟩, d', i', j', k', ys⟩, ⟨⟩⟩ := x
  replace h : K (.bool true) [] := h
  rw [w_laws_FnExactJoinGrids q a b c d i j k xs a' b' c' d' i' j' k' ys K]
  by_cases h1 : xs.length ≤ 1048576
  · have z1 : szV 1048576 xs.length = 1048576 - (xs.length : Int) := szV_ok (by omega)
    have c1 : decide (xs.length ≤ 1048576) = true := d_t h1
    have c3 : decide ((1048576 : Int) - (xs.length : Int) < 0) = false := d_f (by omega)
    have c4 : decide ((1048576 : Int) - (xs.length : Int) ≤ 1048576) = true := d_t (by omega)
    have c5 : decide (0 ≤ (1048576 : Int) - (xs.length : Int)) = true := d_t (by omega)
    rw [z1, c3, c4, c5]
    simp only [cond_false, cond_true, Bool.and_self]
    by_cases h2 : 0 ≤ (1048576 : Int) - (xs.length : Int) - (ys.length : Int)
    · have c2 : decide (ys.length ≤ 1048576) = true := d_t (by omega)
      have c6 : decide ((1048576 : Int) - (xs.length : Int) - (ys.length : Int) < 0) = false := d_f (by omega)
      have c7 : decide ((0 : Int) ≤ 1) = true := rfl
      have c8 : decide ((1 : Int) ≤ 4194304) = true := rfl
      have c9 : decide (0 ≤ 1 + (xs.length : Int)) = true := d_t (by omega)
      have c10 : decide (1 + (xs.length : Int) ≤ 4194304) = true := d_t (by omega)
      have hr : (resJ q ((a, b, c), d, i, j, k, xs) ((a', b', c'), d', i', j', k', ys)).2.2.2.2.2.1.length ≤ 1048576 := by
        unfold resJ
        cases okJ q ((a, b, c), d, i, j, k, xs) ((a', b', c'), d', i', j', k', ys) with
        | false => exact Nat.zero_le _
        | true =>
          show (joinL q xs ys).length ≤ 1048576
          unfold joinL
          rw [List.length_zipWith]
          omega
      generalize resJ q ((a, b, c), d, i, j, k, xs) ((a', b', c'), d', i', j', k', ys) = R at hr ⊢
      generalize okJ q ((a, b, c), d, i, j, k, xs) ((a', b', c'), d', i', j', k', ys) = o
      have c11 := d_t hr
      rw [szV_ok h2]
      simp only [c1, c2, c6, c7, c8, c9, c10, c11, markF_len, beq_self_eq_true, bne_self_eq_false, Bool.and_self, cond_true, cond_false]
      exact h
    · rw [szV_no (by omega)]
      exact h
  · rw [szV_no (by omega)]
    exact h

end Go.Proofs.Ytobdbgdgingjjaa
