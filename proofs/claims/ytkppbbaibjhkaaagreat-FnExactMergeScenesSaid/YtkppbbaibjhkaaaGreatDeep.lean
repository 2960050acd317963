/- Shapes that one owns, with their numbers: made, marked, and found marked. -/
import Derived.Test.YtkppbbaibjhkaaaGreatShapes
import Derived.Test.YtkppbbaibjhkaaaGreatFlE
set_option linter.unusedVariables false
set_option linter.unusedSimpArgs false
set_option maxRecDepth 100000
namespace Go.Proofs.YtkppbbaibjhkaaaGreat
open Go.Ev

/-! plain -/
theorem nan_near (n : Int) (h : n.natAbs ≤ 16777216) : nan .f32 (FloatKind.f32.nearest n) = false := (Fl.ex_int32 h).nan
--B markF Int → Nat → List Nat
def markF (k : Int) (n : Nat) : List Nat := (List.range n).map fun (i : Nat) => FloatKind.f32.nearest (k + (i : Int))
theorem markF_len (k : Int) (n : Nat) : (markF k n).length = n := by simp [markF]
theorem markF_get (k : Int) {n i : Nat} (h : i < n) : (markF k n)[i]'(by rw [markF_len]; exact h) = FloatKind.f32.nearest (k + i) := by simp [markF]
theorem over_step {α : Type} {zs xs : List α} {i : Nat} (hz : i < zs.length) (hx : i < xs.length) : (zs.take i ++ xs.drop i).set i (zs[i]'hz) = zs.take (i + 1) ++ xs.drop (i + 1) := by
  have hl : (zs.take i).length = i := by rw [List.length_take]; omega
  rw [List.set_append, if_neg (by omega), hl, Nat.sub_self, take_one hz, List.drop_eq_getElem_cons hx, List.set_cons_zero, List.append_assoc]
  rfl
theorem over_get {α : Type} {zs xs : List α} {i : Nat} (hz : i ≤ zs.length) (hx : i < xs.length) : (zs.take i ++ xs.drop i)[i]? = some (xs[i]'hx) := by
  have hl : (zs.take i).length = i := by rw [List.length_take]; omega
  rw [List.getElem?_append_right (by omega), hl, Nat.sub_self, List.getElem?_drop, Nat.add_zero, List.getElem?_eq_getElem hx]

/-! marks of a list, one behind the other -/
--B markL {α : Type} → (Int → α → α) → (α → Nat) → Int → List α → List α
def markL {α : Type} (mk : Int → α → α) (w : α → Nat) : Int → List α → List α
  | _, [] => []
  | k, x :: r => mk k x :: markL mk w (k + w x) r
--B sumW {α : Type} → (α → Nat) → List α → Nat
def sumW {α : Type} (w : α → Nat) (xs : List α) : Nat := (xs.map w).sum
theorem markL_len {α : Type} (mk : Int → α → α) (w : α → Nat) : ∀ (xs : List α) (k : Int), (markL mk w k xs).length = xs.length
  | [], _ => rfl
  | x :: r, k => by simp only [markL, List.length_cons, markL_len mk w r]
theorem markL_get {α : Type} (mk : Int → α → α) (w : α → Nat) : ∀ (xs : List α) (k : Int) (i : Nat) (h : i < xs.length), (markL mk w k xs)[i]'(by rw [markL_len]; exact h) = mk (k + sumW w (xs.take i)) (xs[i]'h)
  | [], _, i, h => by simp at h
  | x :: r, k, 0, h => by simp [markL, sumW]
  | x :: r, k, i + 1, h => by
    simp only [markL, List.getElem_cons_succ, List.take_succ_cons]
    rw [markL_get mk w r (k + w x) i (by simpa using h)]
    congr 1
    simp only [sumW, List.map_cons, List.sum_cons]
    omega
theorem markL_idem {α : Type} {mk : Int → α → α} {w : α → Nat} (h1 : ∀ k x, mk k (mk k x) = mk k x) (h2 : ∀ k x, w (mk k x) = w x) : ∀ (xs : List α) (k : Int), markL mk w k (markL mk w k xs) = markL mk w k xs
  | [], _ => rfl
  | x :: r, k => by simp only [markL, h1, h2, markL_idem h1 h2 r]
theorem sumW_markL {α : Type} {mk : Int → α → α} {w : α → Nat} (h2 : ∀ k x, w (mk k x) = w x) : ∀ (xs : List α) (k : Int), sumW w (markL mk w k xs) = sumW w xs
  | [], _ => rfl
  | x :: r, k => by
    have := sumW_markL h2 r (k + w x)
    simp only [markL, sumW, List.map_cons, List.sum_cons, h2] at this ⊢
    omega
theorem sumW_take {α : Type} (w : α → Nat) {xs : List α} {i : Nat} (hi : i < xs.length) : sumW w (xs.take (i + 1)) = sumW w (xs.take i) + w (xs[i]'hi) := by
  unfold sumW
  rw [take_one hi, List.map_append, List.sum_append]
  simp
theorem sumW_le {α : Type} (w : α → Nat) (xs : List α) (i : Nat) : sumW w (xs.take i) ≤ sumW w xs := sum_le w xs i
theorem len_sumW {α : Type} {w : α → Nat} (h : ∀ x, 1 ≤ w x) : ∀ xs : List α, xs.length ≤ sumW w xs
  | [] => Nat.zero_le _
  | x :: r => by
    have := len_sumW h r
    have := h x
    simp only [sumW, List.map_cons, List.sum_cons, List.length_cons] at *
    omega

/-! laws.toFloat32S -/
noncomputable def a_laws_toFloat32S_vg : Nat → Option Ann := fun n => bif Nat.beq n 3 then some ⟨[0,3,4],1,false⟩ else none
noncomputable def c_laws_toFloat32S_vg : Ctx := mkC Tryz.prog tyT [] [] [] 22 a_laws_toFloat32S_vg 0
noncomputable def gp_laws_toFloat32S_vg : List (List (Option Ty)) := List.map giveR [.cell (.own (tF))]
noncomputable def fr_laws_toFloat32S_vg_3 (xs ys : List (Nat)) (i : Int) : Fr := [(0, .vec (tF) xs), (3, .obj 0 0), (4, .int .i64 i)]
noncomputable def hp_laws_toFloat32S_vg_3 (xs ys : List (Nat)) (i : Int) : Heap := [.sl 0 (tF) ys]
theorem r_laws_toFloat32S_vg_3 (xs ys : List (Nat)) (i : Int) (Kn : Fr → Heap → Prop) (K : V → Heap → Prop) : round c_laws_toFloat32S_vg ⟨[0,3,4],1,false⟩ (lb c_laws_toFloat32S_vg 3 Tryz.f92) (fr_laws_toFloat32S_vg_3 xs ys i) (hp_laws_toFloat32S_vg_3 xs ys i) Kn (lkG gp_laws_toFloat32S_vg c_laws_toFloat32S_vg 3 Tryz.f92 [] K) =
  cond (decide (i < (↑(List.length xs) : Int)))
    (cond (decide (0 ≤ i))
      ((match xs[Int.toNat i]? with
        | some y0 => cond (decide (0 ≤ i) && Nat.blt (Int.toNat i) (List.length ys))
          ((match ys[Int.toNat i]? with
            | some x1 => Kn [(0, (.vec (.float .f32) (xs))), (3, (.obj 0 0)), (4, (.int .i64 (IntKind.wrap IntKind.i64 (i + 1))))] [(.sl 0 (.float .f32) (List.set ys (Int.toNat i) y0))]
            | none => False))
          (False)
        | none => False))
      (False))
    (K (.obj 0 0) [(.sl 0 (.float .f32) (ys))]) := by kernel_rfl
theorem w_laws_toFloat32S_vg (xs : List (Nat)) (K : V → Heap → Prop) : wpFnG gp_laws_toFloat32S_vg c_laws_toFloat32S_vg Tryz.f92 (encAs [.cell (.slice (tF))] (xs, ())) [] K =
  cond (decide (0 ≤ (↑(List.length xs) : Int)) && (decide ((↑(List.length xs) : Int) ≤ (↑(List.length xs) : Int)) && decide ((↑4 : Int) * (↑(List.length xs) : Int) ≤ 281474976710656)))
    (LoopE c_laws_toFloat32S_vg ⟨[0, 3, 4], 1, false⟩ (lb c_laws_toFloat32S_vg 3 Tryz.f92) [(0, (.vec (.float .f32) (xs))), (3, (.obj 0 0)), (4, (.int .i64 0))] [(.sl 0 (.float .f32) (List.replicate (Int.toNat (↑(List.length xs) : Int)) 0))] (lkG gp_laws_toFloat32S_vg c_laws_toFloat32S_vg 3 Tryz.f92 [] K))
    (False) := by kernel_rfl
noncomputable def s_laws_toFloat32S_vg : Sm := semV [.cell (.slice (tF))] [.cell (.own (tF))] (fun x => match x with | (xs, _) => decide (xs.length ≤ 1048576)) fun x => match x with | (xs, _) => (xs, ())
theorem ok_laws_toFloat32S_vg : FnOkL Tryz.prog 92 s_laws_toFloat32S_vg := fnOkO_give (fnOkO_runG (C := c_laws_toFloat32S_vg) gp_laws_toFloat32S_vg rfl mixed .nil .nil .nil Tryz.func92 (by kernel_rfl)) rfl fun (x : ((List (Nat)) × Unit)) wf hg K h => by
  obtain ⟨xs, ⟨⟩⟩ := x
  replace hg : (decide (xs.length ≤ 1048576)) = true := hg
  replace h : K (tup (valRs [.cell (.own (tF))] ((xs, ())) 0)) (thRs [.cell (.own (tF))] ((xs, ()))) := h
  rw [w_laws_toFloat32S_vg xs K]
  simp only [decide_eq_true_eq] at hg
  skip
  rw [d_0, d_t (Int.le_refl _), d_t (by omega)]
  simp only [Bool.and_self, cond_true, Int.toNat_natCast]
  refine loop_run (σ := Nat) (fun i => fr_laws_toFloat32S_vg_3 xs [] i) (fun i => hp_laws_toFloat32S_vg_3 xs (xs.take i ++ List.replicate (xs.length - i) 0) i) (fun i => i ≤ xs.length) (fun i => xs.length - i) ?_ 0 (Nat.zero_le _)
  intro i hi Kn hk
  rw [show fr_laws_toFloat32S_vg_3 xs [] i = fr_laws_toFloat32S_vg_3 xs (xs.take i ++ List.replicate (xs.length - i) 0) i from rfl, r_laws_toFloat32S_vg_3 xs (xs.take i ++ List.replicate (xs.length - i) 0) i Kn K]
  by_cases hlt : i < xs.length
  · have hl : (xs.take i ++ List.replicate (xs.length - i) 0).length = xs.length := by rw [List.length_append, List.length_take, List.length_replicate]; omega
    have hl' : i < (xs.take i ++ List.replicate (xs.length - i) 0).length := by omega
    simp only [d_lt hlt, d_0, cond_true, Int.toNat_natCast, get_lt hlt, blt_t hl', get_lt hl', Bool.and_self]
    rw [i64_of (by omega) (by omega), copy_step hlt rfl rfl]
    exact hk (i + 1) hlt (by omega)
  · have : i = xs.length := by omega
    subst this
    simp only [d_nlt hlt, cond_false, List.take_length, Nat.sub_self, List.replicate_zero, List.append_nil]
    exact h

/-! laws.markFloat32S -/
noncomputable def a_laws_markFloat32S : Nat → Option Ann := fun n => bif Nat.beq n 2 then some ⟨[0,1,5],1,false⟩ else none
noncomputable def c_laws_markFloat32S : Ctx := mkC Tryz.prog tyT [] [] [] 20 a_laws_markFloat32S 1
noncomputable def fr_laws_markFloat32S_2 (xs : List Nat) (k i : Int) : Fr := [(0, .obj 0 0), (1, .int .i64 k), (5, .int .i64 i)]
noncomputable def hp_laws_markFloat32S_2 (xs : List Nat) (k i : Int) : Heap := [.sl 0 tF xs]
theorem r_laws_markFloat32S_2 (xs : List Nat) (k i : Int) (Kn : Fr → Heap → Prop) (K : V → Heap → Prop) : round c_laws_markFloat32S ⟨[0,1,5],1,false⟩ (lb c_laws_markFloat32S 2 Tryz.f85) (fr_laws_markFloat32S_2 xs k i) (hp_laws_markFloat32S_2 xs k i) Kn (lkO c_laws_markFloat32S 2 Tryz.f85 [.box []] K) =
  cond (decide (i < (↑(List.length xs) : Int)))
    (cond (decide (0 ≤ i) && Nat.blt (Int.toNat i) (List.length xs))
      ((match xs[Int.toNat i]? with
        | some x0 => Kn [(0, (.obj 0 0)), (1, (.int .i64 (IntKind.wrap IntKind.i64 (k + 1)))), (5, (.int .i64 (IntKind.wrap IntKind.i64 (i + 1))))] [(.sl 0 (.float .f32) (List.set xs (Int.toNat i) (FloatKind.nearest FloatKind.f32 k)))]
        | none => False))
      (False))
    (K (.int .i64 (k)) [(.sl 0 (.float .f32) (xs))]) := by kernel_rfl
theorem w_laws_markFloat32S (xs : List Nat) (k : Int) (K : V → Heap → Prop) : wpFnO c_laws_markFloat32S Tryz.f85 (ofCells false [.obj 0 0] :: encAs [.cell tI] (k, ())) [.sl 0 tF xs] K =
  LoopE c_laws_markFloat32S ⟨[0, 1, 5], 1, false⟩ (lb c_laws_markFloat32S 2 Tryz.f85) [(0, (.obj 0 0)), (1, (.int .i64 (k))), (5, (.int .i64 0))] [(.sl 0 (.float .f32) (xs))] (lkO c_laws_markFloat32S 2 Tryz.f85 [.box []] K) := by kernel_rfl
noncomputable def s_laws_markFloat32S : Sm := semIF false tF [.cell tI] (fun xs x => match x with | (k, _) => decide (0 ≤ k) && decide (k + xs.length ≤ 8388608)) fun xs x => match x with | (k, _) => (.int .i64 (k + xs.length), markF k xs.length)
theorem ok_laws_markFloat32S : FnOkL Tryz.prog 85 s_laws_markFloat32S := fnOkO_innF (e := tF) (ag := false) (l := [.cell tI]) (gd := (fun xs x => match x with | (k, _) => decide (0 ≤ k) && decide (k + xs.length ≤ 8388608))) (f := fun xs x => match x with | (k, _) => (.int .i64 (k + xs.length), markF k xs.length)) (fnOkO_runC (C := c_laws_markFloat32S) rfl mixed .nil .nil .nil Tryz.func85 (by kernel_rfl)) rfl fun (xs : List Nat) (x : ((Int) × Unit)) wf hg K h => by
  obtain ⟨k, ⟨⟩⟩ := x
  replace hg : (decide (0 ≤ k) && decide (k + xs.length ≤ 8388608)) = true := hg
  replace h : K (.int .i64 (k + xs.length)) [.sl 0 tF (markF k xs.length)] := h
  rw [w_laws_markFloat32S xs k K]
  simp only [Bool.and_eq_true, decide_eq_true_eq] at hg
  obtain ⟨g1, g2⟩ := hg
  have hml := markF_len k xs.length
  refine loop_run (σ := Nat × Int) (fun s => fr_laws_markFloat32S_2 [] s.2 s.1) (fun s => hp_laws_markFloat32S_2 ((markF k xs.length).take s.1 ++ xs.drop s.1) s.2 s.1) (fun s => s.1 ≤ xs.length ∧ s.2 = k + s.1) (fun s => xs.length - s.1) ?_ (0, k) ⟨Nat.zero_le _, by simp⟩
  rintro ⟨i, kk⟩ ⟨hi, hkk⟩ Kn hk
  simp only at hi hkk hk ⊢
  have hl : ((markF k xs.length).take i ++ xs.drop i).length = xs.length := by rw [List.length_append, List.length_take, List.length_drop, hml]; omega
  rw [show fr_laws_markFloat32S_2 [] kk i = fr_laws_markFloat32S_2 ((markF k xs.length).take i ++ xs.drop i) kk i from rfl, r_laws_markFloat32S_2 ((markF k xs.length).take i ++ xs.drop i) kk i Kn K]
  rw [hl]
  by_cases hlt : i < xs.length
  · have hlt' : i < ((markF k xs.length).take i ++ xs.drop i).length := by omega
    simp only [d_lt hlt, d_0, cond_true, Int.toNat_natCast, blt_t hlt, get_lt hlt', Bool.and_self]
    rw [i64_of (by omega) (by omega), i64_of (by omega) (by omega), show FloatKind.nearest FloatKind.f32 kk = (markF k xs.length)[i]'(by omega) by rw [markF_get k hlt, hkk], over_step (by omega) hlt]
    exact hk (i + 1, kk + 1) ⟨hlt, by simp only; omega⟩ (by simp only; omega)
  · have : i = xs.length := by omega
    subst this
    simp only [d_nlt hlt, cond_false]
    rw [List.take_of_length_le (by omega), List.drop_of_length_le (Nat.le_refl _), List.append_nil, hkk]
    exact h

/-! laws.heldFloat32S -/
noncomputable def a_laws_heldFloat32S : Nat → Option Ann := fun n => bif Nat.beq n 2 then some ⟨[0,1,5],0,false⟩ else none
noncomputable def c_laws_heldFloat32S : Ctx := mkC Tryz.prog tyT [] [] [] 22 a_laws_heldFloat32S 0
noncomputable def fr_laws_heldFloat32S_2 (xs : List Nat) (k i : Int) : Fr := [(0, .vec tF xs), (1, .int .i64 k), (5, .int .i64 i)]
theorem r_laws_heldFloat32S_2 (xs : List Nat) (k i : Int) (Kn : Fr → Heap → Prop) (K : V → Heap → Prop) : round c_laws_heldFloat32S ⟨[0,1,5],0,false⟩ (lb c_laws_heldFloat32S 2 Tryz.f86) (fr_laws_heldFloat32S_2 xs k i) [] Kn (lk c_laws_heldFloat32S 2 Tryz.f86 [] K) =
  cond (decide (i < (↑(List.length xs) : Int)))
    (cond (decide (0 ≤ i))
      ((match xs[Int.toNat i]? with
        | some y0 => cond (!feq FloatKind.f32 y0 (FloatKind.nearest FloatKind.f32 k))
          (K (.int .i64 (-1)) [])
          (Kn [(0, (.vec (.float .f32) (xs))), (1, (.int .i64 (IntKind.wrap IntKind.i64 (k + 1)))), (5, (.int .i64 (IntKind.wrap IntKind.i64 (i + 1))))] [])
        | none => False))
      (False))
    (K (.int .i64 (k)) []) := by kernel_rfl
theorem w_laws_heldFloat32S (xs : List Nat) (k : Int) (K : V → Heap → Prop) : wpFn c_laws_heldFloat32S Tryz.f86 (encAs [.cell (.slice tF), .cell tI] (xs, k, ())) [] K =
  LoopE c_laws_heldFloat32S ⟨[0, 1, 5], 0, false⟩ (lb c_laws_heldFloat32S 2 Tryz.f86) [(0, (.vec (.float .f32) (xs))), (1, (.int .i64 (k))), (5, (.int .i64 0))] [] (lk c_laws_heldFloat32S 2 Tryz.f86 [] K) := by kernel_rfl
noncomputable def s_laws_heldFloat32S : Sm := semG [.cell (.slice tF), .cell tI] (fun x => match x with | (xs, k, _) => decide (0 ≤ k) && (decide (k + xs.length ≤ 8388608) && (xs == markF k xs.length))) fun x => match x with | (xs, k, _) => .int .i64 (k + xs.length)
theorem ok_laws_heldFloat32S : FnOk Tryz.prog 86 s_laws_heldFloat32S := fnOk_typedG (fnOk_runC (C := c_laws_heldFloat32S) rfl mixed .nil .nil .nil Tryz.func86 (by kernel_rfl)) fun (x : ((List Nat) × (Int) × Unit)) wf hg K h => by
  obtain ⟨xs, k, ⟨⟩⟩ := x
  replace hg : (decide (0 ≤ k) && (decide (k + xs.length ≤ 8388608) && (xs == markF k xs.length))) = true := hg
  replace h : K (.int .i64 (k + xs.length)) [] := h
  rw [w_laws_heldFloat32S xs k K]
  simp only [Bool.and_eq_true, decide_eq_true_eq, beq_iff_eq] at hg
  obtain ⟨g1, g2, g4⟩ := hg
  refine loop_run (σ := Nat × Int) (fun s => fr_laws_heldFloat32S_2 xs s.2 s.1) (fun s => []) (fun s => s.1 ≤ xs.length ∧ s.2 = k + s.1) (fun s => xs.length - s.1) ?_ (0, k) ⟨Nat.zero_le _, by simp⟩
  rintro ⟨i, kk⟩ ⟨hi, hkk⟩ Kn hk
  simp only at hi hkk hk ⊢
  rw [r_laws_heldFloat32S_2 xs kk i Kn K]
  by_cases hlt : i < xs.length
  · have hx : xs[i]'hlt = FloatKind.nearest FloatKind.f32 kk := by
      have := markF_get k hlt
      rw [hkk, ← this]
      simp only [← g4]
    simp only [d_lt hlt, d_0, cond_true, Int.toNat_natCast, get_lt hlt, hx]
    rw [feq_self, nan_near kk (by omega)]
    simp only [Bool.not_false, Bool.not_true, cond_false]
    rw [i64_of (by omega) (by omega), i64_of (by omega) (by omega)]
    exact hk (i + 1, kk + 1) ⟨hlt, by simp only; omega⟩ (by simp only; omega)
  · have : i = xs.length := by omega
    simp only [d_nlt hlt, cond_false]
    rw [hkk, this]
    exact h

--B mkN Int → NodeD → NodeD
def mkN (k : Int) (x : NodeD) : NodeD := (k, k + 1, k + 2, markF (k + 3) x.2.2.2.length)
--B wN NodeD → Nat
def wN (x : NodeD) : Nat := 3 + x.2.2.2.length
theorem wN_pos (x : NodeD) : 1 ≤ wN x := by unfold wN; omega
theorem putN (x : NodeD) (ys : List Nat) : putAt tN x 3 tF ys = (x.1, x.2.1, x.2.2.1, ys) := rfl

abbrev pN : List Po := [.imm tI, .imm tI, .imm tI, .own tF]
/-! laws.toNode -/
noncomputable def c_laws_toNode_vg : Ctx := mkC Tryz.prog tyT [] [] [(92, s_laws_toFloat32S_vg)] 18 (fun _ => none) 0
noncomputable def gp_laws_toNode_vg : List (List (Option Ty)) := List.map giveR [.agg pN]
theorem w_laws_toNode_vg (k a b : Int) (xs : List Nat) (K : V → Heap → Prop) : wpFnG gp_laws_toNode_vg c_laws_toNode_vg Tryz.f68 (encAs [.agg tN] ((k, a, b, xs), ())) [] K =
  cond (decide (List.length xs ≤ 1048576))
    (K (.agg [(.int .i64 (k)), (.int .i64 (a)), (.int .i64 (b)), (.obj 0 0)]) [(.sl 0 (.float .f32) (xs))])
    (False) := by kernel_rfl
noncomputable def s_laws_toNode_vg : Sm := semV [.agg tN] [.agg pN] (fun x => match x with | ((k, a, b, xs), _) => decide (xs.length ≤ 1048576)) fun x => match x with | ((k, a, b, xs), _) => ((k, a, b, xs, ()), ())
theorem ok_laws_toNode_vg : FnOkL Tryz.prog 68 s_laws_toNode_vg := fnOkO_give (fnOkO_runG (C := c_laws_toNode_vg) gp_laws_toNode_vg rfl mixed .nil .nil (.cons ok_laws_toFloat32S_vg .nil) Tryz.func68 (by kernel_rfl)) rfl fun (x : (((Int) × (Int) × (Int) × (List Nat)) × Unit)) wf hg K h => by
  obtain ⟨⟨k, a, b, xs⟩, ⟨⟩⟩ := x
  replace hg : (decide (xs.length ≤ 1048576)) = true := hg
  replace h : K (tup (valRs [.agg pN] (((k, a, b, xs, ()), ())) 0)) (thRs [.agg pN] (((k, a, b, xs, ()), ()))) := h
  rw [w_laws_toNode_vg k a b xs K]
  rw [hg]; exact h

/-! laws.toNodeS -/
noncomputable def a_laws_toNodeS_vg : Nat → Option Ann := fun n => bif Nat.beq n 3 then some ⟨[0,3,4],1,false⟩ else none
noncomputable def c_laws_toNodeS_vg : Ctx := mkC Tryz.prog tyT [] [] [(68, s_laws_toNode_vg)] 23 a_laws_toNodeS_vg 0 false [] true
noncomputable def gp_laws_toNodeS_vg : List (List (Option Ty)) := List.map giveR [.cell (.deep tN)]
noncomputable def fr_laws_toNodeS_vg_3 (xs ys : List NodeD) (i : Int) : Fr := [(0, .vec tN xs), (3, .dob 0 0), (4, .int .i64 i)]
noncomputable def hp_laws_toNodeS_vg_3 (xs ys : List NodeD) (i : Int) : Heap := [.dp 0 0 tN ys]
theorem r_laws_toNodeS_vg_3 (xs ys : List NodeD) (i : Int) (Kn : Fr → Heap → Prop) (K : V → Heap → Prop) : round c_laws_toNodeS_vg ⟨[0,3,4],1,false⟩ (lb c_laws_toNodeS_vg 3 Tryz.f46) (fr_laws_toNodeS_vg_3 xs ys i) (hp_laws_toNodeS_vg_3 xs ys i) Kn (lkG gp_laws_toNodeS_vg c_laws_toNodeS_vg 3 Tryz.f46 [] K) =
  cond (decide (i < (↑(List.length xs) : Int)))
    (cond (decide (0 ≤ i))
      ((match xs[Int.toNat i]? with
        | some y0 => cond (decide (List.length (Prod.snd (Prod.snd (Prod.snd y0))) ≤ 1048576))
          (cond (decide (0 ≤ i) && Nat.blt (Int.toNat i) (List.length ys))
            ((match ys[Int.toNat i]? with
              | some x1 => Kn [(0, (.vec tN (xs))), (3, (.dob 0 0)), (4, (.int .i64 (IntKind.wrap IntKind.i64 (i + 1))))] [(.dp 0 0 tN (List.set ys (Int.toNat i) y0))]
              | none => False))
            (False))
          (False)
        | none => False))
      (False))
    (K (.dob 0 0) [(.dp 0 0 tN (ys))]) := by kernel_rfl
theorem w_laws_toNodeS_vg (xs : List NodeD) (K : V → Heap → Prop) : wpFnG gp_laws_toNodeS_vg c_laws_toNodeS_vg Tryz.f46 (encAs [.cell (.slice tN)] (xs, ())) [] K =
  cond (decide (0 ≤ (↑(List.length xs) : Int)) && (decide ((↑(List.length xs) : Int) ≤ (↑(List.length xs) : Int)) && decide ((↑48 : Int) * (↑(List.length xs) : Int) ≤ 281474976710656)))
    (LoopE c_laws_toNodeS_vg ⟨[0, 3, 4], 1, false⟩ (lb c_laws_toNodeS_vg 3 Tryz.f46) [(0, (.vec tN (xs))), (3, (.dob 0 0)), (4, (.int .i64 0))] [(.dp 0 0 tN (List.replicate (Int.toNat (↑(List.length xs) : Int)) (0, 0, 0, [])))] (lkG gp_laws_toNodeS_vg c_laws_toNodeS_vg 3 Tryz.f46 [] K))
    (False) := by kernel_rfl
noncomputable def s_laws_toNodeS_vg : Sm := semV [.cell (.slice tN)] [.cell (.deep tN)] (fun x => match x with | (xs, _) => decide (xs.length ≤ 1048576) && xs.all fitN) fun x => match x with | (xs, _) => (xs, ())
theorem ok_laws_toNodeS_vg : FnOkL Tryz.prog 46 s_laws_toNodeS_vg := fnOkO_give (fnOkO_runG (C := c_laws_toNodeS_vg) gp_laws_toNodeS_vg rfl mixed .nil .nil (.cons ok_laws_toNode_vg .nil) Tryz.func46 (by kernel_rfl)) rfl fun (x : ((List NodeD) × Unit)) wf hg K h => by
  obtain ⟨xs, ⟨⟩⟩ := x
  replace hg : (decide (xs.length ≤ 1048576) && xs.all fitN) = true := hg
  replace h : K (tup (valRs [.cell (.deep tN)] ((xs, ())) 0)) (thRs [.cell (.deep tN)] ((xs, ()))) := h
  rw [w_laws_toNodeS_vg xs K]
  simp only [Bool.and_eq_true, decide_eq_true_eq] at hg
  obtain ⟨g1, g2⟩ := hg
  have g3 : (decide (0 ≤ (xs.length : Int)) && (decide ((xs.length : Int) ≤ (xs.length : Int)) && decide ((48 : Int) * (xs.length : Int) ≤ 281474976710656))) = true := by
    simp only [Bool.and_eq_true, decide_eq_true_eq]; omega
  rw [g3, cond_true]
  refine loop_run (σ := Nat × List NodeD) (fun s => fr_laws_toNodeS_vg_3 xs [] s.1) (fun s => hp_laws_toNodeS_vg_3 xs (xs.take s.1 ++ s.2.drop s.1) s.1) (fun s => s.1 ≤ xs.length ∧ s.2.length = xs.length) (fun s => xs.length - s.1) ?_ (0, List.replicate (Int.toNat (xs.length : Int)) (0, 0, 0, [])) ⟨Nat.zero_le _, by simp⟩
  rintro ⟨i, zs⟩ ⟨hi, hzs⟩ Kn hk
  simp only at hi hzs hk ⊢
  have hl : (xs.take i ++ zs.drop i).length = xs.length := by rw [List.length_append, List.length_take, List.length_drop]; omega
  rw [show fr_laws_toNodeS_vg_3 xs [] i = fr_laws_toNodeS_vg_3 xs (xs.take i ++ zs.drop i) i from rfl, r_laws_toNodeS_vg_3 xs (xs.take i ++ zs.drop i) i Kn K]
  by_cases hlt : i < xs.length
  · have hlt' : i < (xs.take i ++ zs.drop i).length := by omega
    have hf : decide ((xs[i]'hlt).2.2.2.length ≤ 1048576) = true := List.all_eq_true.1 g2 _ (List.getElem_mem hlt)
    simp only [d_lt hlt, d_0, cond_true, Int.toNat_natCast, hl, blt_t hlt, get_lt hlt', get_lt hlt, hf, Bool.and_self]
    rw [i64_of (by omega) (by omega), over_step hlt (by omega)]
    exact hk (i + 1, zs) ⟨hlt, hzs⟩ (by simp only; omega)
  · have : i = xs.length := by omega
    subst this
    simp only [d_nlt hlt, cond_false]
    rw [List.take_of_length_le (Nat.le_refl _), List.drop_of_length_le (by omega), List.append_nil]
    exact h

/-! laws.markNodeS -/
noncomputable def a_laws_markNodeS : Nat → Option Ann := fun n => bif Nat.beq n 2 then some ⟨[0,1,5],1,false⟩ else none
noncomputable def c_laws_markNodeS : Ctx := mkC Tryz.prog tyT [] [] [(85, s_laws_markFloat32S)] 41 a_laws_markNodeS 1
noncomputable def fr_laws_markNodeS_2 (xs : List NodeD) (k i : Int) : Fr := [(0, .dob 0 0), (1, .int .i64 k), (5, .int .i64 i)]
noncomputable def hp_laws_markNodeS_2 (xs : List NodeD) (k i : Int) : Heap := [.dp 0 0 tN xs]
theorem r_laws_markNodeS_2 (xs : List NodeD) (k i : Int) (Kn : Fr → Heap → Prop) (K : V → Heap → Prop) : round c_laws_markNodeS ⟨[0,1,5],1,false⟩ (lb c_laws_markNodeS 2 Tryz.f58) (fr_laws_markNodeS_2 xs k i) (hp_laws_markNodeS_2 xs k i) Kn (lkO c_laws_markNodeS 2 Tryz.f58 [.box []] K) =
  cond (decide (i < (↑(List.length xs) : Int)))
    (cond (decide (0 ≤ i) && Nat.blt (Int.toNat i) (List.length xs))
      ((match xs[Int.toNat i]? with
        | some x0 => cond (decide (0 ≤ i) && Nat.blt (Int.toNat i) (List.length (List.set xs (Int.toNat i) (k, Prod.snd x0))))
          ((match (List.set xs (Int.toNat i) (k, Prod.snd x0))[Int.toNat i]? with
            | some x1 => cond (decide (0 ≤ i) && Nat.blt (Int.toNat i) (List.length (List.set (List.set xs (Int.toNat i) (k, Prod.snd x0)) (Int.toNat i) (Prod.fst x1, IntKind.wrap IntKind.i64 (k + 1), Prod.snd (Prod.snd x1)))))
              ((match (List.set (List.set xs (Int.toNat i) (k, Prod.snd x0)) (Int.toNat i) (Prod.fst x1, IntKind.wrap IntKind.i64 (k + 1), Prod.snd (Prod.snd x1)))[Int.toNat i]? with
                | some x2 => cond (decide (0 ≤ i) && Nat.blt (Int.toNat i) (List.length (List.set (List.set (List.set xs (Int.toNat i) (k, Prod.snd x0)) (Int.toNat i) (Prod.fst x1, IntKind.wrap IntKind.i64 (k + 1), Prod.snd (Prod.snd x1))) (Int.toNat i) (Prod.fst x2, Prod.fst (Prod.snd x2), IntKind.wrap IntKind.i64 (IntKind.wrap IntKind.i64 (k + 1) + 1), Prod.snd (Prod.snd (Prod.snd x2))))))
                  ((match (List.set (List.set (List.set xs (Int.toNat i) (k, Prod.snd x0)) (Int.toNat i) (Prod.fst x1, IntKind.wrap IntKind.i64 (k + 1), Prod.snd (Prod.snd x1))) (Int.toNat i) (Prod.fst x2, Prod.fst (Prod.snd x2), IntKind.wrap IntKind.i64 (IntKind.wrap IntKind.i64 (k + 1) + 1), Prod.snd (Prod.snd (Prod.snd x2))))[Int.toNat i]? with
                    | some x3 => (match (List.set (List.set (List.set xs (Int.toNat i) (k, Prod.snd x0)) (Int.toNat i) (Prod.fst x1, IntKind.wrap IntKind.i64 (k + 1), Prod.snd (Prod.snd x1))) (Int.toNat i) (Prod.fst x2, Prod.fst (Prod.snd x2), IntKind.wrap IntKind.i64 (IntKind.wrap IntKind.i64 (k + 1) + 1), Prod.snd (Prod.snd (Prod.snd x2))))[Int.toNat i]? with
                      | some x4 => cond (decide (0 ≤ IntKind.wrap IntKind.i64 (IntKind.wrap IntKind.i64 (IntKind.wrap IntKind.i64 (k + 1) + 1) + 1)) && decide (IntKind.wrap IntKind.i64 (IntKind.wrap IntKind.i64 (IntKind.wrap IntKind.i64 (k + 1) + 1) + 1) + (↑(List.length (Prod.snd (Prod.snd (Prod.snd x4)))) : Int) ≤ 8388608))
                        (Kn [(0, (.dob 0 0)), (1, (.int .i64 (IntKind.wrap IntKind.i64 (IntKind.wrap IntKind.i64 (IntKind.wrap IntKind.i64 (k + 1) + 1) + 1) + (↑(List.length (Prod.snd (Prod.snd (Prod.snd x4)))) : Int)))), (5, (.int .i64 (IntKind.wrap IntKind.i64 (i + 1))))] [(.dp 0 0 tN (List.set (List.set (List.set (List.set xs (Int.toNat i) (k, Prod.snd x0)) (Int.toNat i) (Prod.fst x1, IntKind.wrap IntKind.i64 (k + 1), Prod.snd (Prod.snd x1))) (Int.toNat i) (Prod.fst x2, Prod.fst (Prod.snd x2), IntKind.wrap IntKind.i64 (IntKind.wrap IntKind.i64 (k + 1) + 1), Prod.snd (Prod.snd (Prod.snd x2)))) (Int.toNat i) (putAt tN x4 3 tF (markF (IntKind.wrap IntKind.i64 (IntKind.wrap IntKind.i64 (IntKind.wrap IntKind.i64 (k + 1) + 1) + 1)) (List.length (Prod.snd (Prod.snd (Prod.snd x4))))))))])
                        (False)
                      | none => False)
                    | none => False))
                  (False)
                | none => False))
              (False)
            | none => False))
          (False)
        | none => False))
      (False))
    (K (.int .i64 (k)) [(.dp 0 0 tN (xs))]) := by kernel_rfl
theorem w_laws_markNodeS (xs : List NodeD) (k : Int) (K : V → Heap → Prop) : wpFnO c_laws_markNodeS Tryz.f58 (ofCells false [.dob 0 0] :: encAs [.cell tI] (k, ())) [.dp 0 0 tN xs] K =
  LoopE c_laws_markNodeS ⟨[0, 1, 5], 1, false⟩ (lb c_laws_markNodeS 2 Tryz.f58) [(0, (.dob 0 0)), (1, (.int .i64 (k))), (5, (.int .i64 0))] [(.dp 0 0 tN (xs))] (lkO c_laws_markNodeS 2 Tryz.f58 [.box []] K) := by kernel_rfl
noncomputable def s_laws_markNodeS : Sm := semID false tN [.cell tI] (fun xs x => match x with | (k, _) => decide (0 ≤ k) && decide (k + sumW wN xs ≤ 8388608)) fun xs x => match x with | (k, _) => (.int .i64 (k + sumW wN xs), markL mkN wN k xs)
theorem ok_laws_markNodeS : FnOkL Tryz.prog 58 s_laws_markNodeS := fnOkO_innD (e := tN) (ag := false) (l := [.cell tI]) (gd := (fun xs x => match x with | (k, _) => decide (0 ≤ k) && decide (k + sumW wN xs ≤ 8388608))) (f := fun xs x => match x with | (k, _) => (.int .i64 (k + sumW wN xs), markL mkN wN k xs)) (fnOkO_runC (C := c_laws_markNodeS) rfl mixed .nil .nil (.cons ok_laws_markFloat32S .nil) Tryz.func58 (by kernel_rfl)) fun (xs : List NodeD) (x : ((Int) × Unit)) wf hg K h => by
  obtain ⟨k, ⟨⟩⟩ := x
  replace hg : (decide (0 ≤ k) && decide (k + sumW wN xs ≤ 8388608)) = true := hg
  replace h : K (.int .i64 (k + sumW wN xs)) [.dp 0 0 tN (markL mkN wN k xs)] := h
  rw [w_laws_markNodeS xs k K]
  simp only [Bool.and_eq_true, decide_eq_true_eq] at hg
  obtain ⟨g1, g2⟩ := hg
  have hml := markL_len mkN wN xs k
  have hxl := len_sumW wN_pos xs
  refine loop_run (σ := Nat × Int) (fun s => fr_laws_markNodeS_2 [] s.2 s.1) (fun s => hp_laws_markNodeS_2 ((markL mkN wN k xs).take s.1 ++ xs.drop s.1) s.2 s.1) (fun s => s.1 ≤ xs.length ∧ s.2 = k + sumW wN (xs.take s.1)) (fun s => xs.length - s.1) ?_ (0, k) ⟨Nat.zero_le _, by simp [sumW]⟩
  rintro ⟨i, kk⟩ ⟨hi, hkk⟩ Kn hk
  simp only at hi hkk hk ⊢
  have hl : ((markL mkN wN k xs).take i ++ xs.drop i).length = xs.length := by rw [List.length_append, List.length_take, List.length_drop, hml]; omega
  rw [show fr_laws_markNodeS_2 [] kk i = fr_laws_markNodeS_2 ((markL mkN wN k xs).take i ++ xs.drop i) kk i from rfl, r_laws_markNodeS_2 ((markL mkN wN k xs).take i ++ xs.drop i) kk i Kn K]
  by_cases hlt : i < xs.length
  · have hget := over_get (zs := markL mkN wN k xs) (xs := xs) (i := i) (by omega) hlt
    have hst := over_step (zs := markL mkN wN k xs) (xs := xs) (i := i) (by omega) hlt
    rw [markL_get mkN wN xs k i hlt, ← hkk] at hst
    have hw := sumW_take wN hlt
    have hle := sumW_le wN xs (i + 1)
    have hwx : wN (xs[i]'hlt) = 3 + (xs[i]'hlt).2.2.2.length := rfl
    generalize hzs : (markL mkN wN k xs).take i ++ xs.drop i = zs at hl hget hst ⊢
    have hself : ∀ y, (zs.set i y)[i]? = some y := fun y => List.getElem?_set_self (by omega)
    generalize hxe : xs[i]'hlt = x at *
    rw [i64_of (show -9223372036854775808 ≤ kk + 1 by omega) (by omega), i64_of (show -9223372036854775808 ≤ kk + 1 + 1 by omega) (by omega), i64_of (show -9223372036854775808 ≤ kk + 1 + 1 + 1 by omega) (by omega)]
    simp only [hl, List.length_set, d_lt hlt, d_0, cond_true, Int.toNat_natCast, blt_t hlt, Bool.and_self, hget, hself, List.set_set]
    rw [show decide (0 ≤ kk + 1 + 1 + 1) = true from decide_eq_true (by omega), show decide (kk + 1 + 1 + 1 + (x.2.2.2.length : Int) ≤ 8388608) = true from decide_eq_true (by omega)]
    simp only [Bool.and_self, cond_true]
    rw [i64_of (show -9223372036854775808 ≤ (i : Int) + 1 by omega) (by omega), putN]
    have hmk : zs.set i (kk, kk + 1, kk + 1 + 1, markF (kk + 1 + 1 + 1) x.2.2.2.length) = (markL mkN wN k xs).take (i + 1) ++ xs.drop (i + 1) := by
      rw [← hst, mkN, show kk + 3 = kk + 1 + 1 + 1 by omega, show kk + 2 = kk + 1 + 1 by omega]
    rw [hmk]
    have := hk (i + 1, kk + wN x) ⟨hlt, by simp only; omega⟩ (by simp only; omega)
    simp only at this
    rw [show kk + 1 + 1 + 1 + (x.2.2.2.length : Int) = kk + ((wN x : Nat) : Int) by omega]
    exact this
  · have : i = xs.length := by omega
    simp only [hl, d_nlt hlt, cond_false]
    rw [List.take_of_length_le (by omega), List.drop_of_length_le (by omega), List.append_nil, hkk, this, List.take_length]
    exact h

/-! laws.heldNodeS -/
noncomputable def a_laws_heldNodeS : Nat → Option Ann := fun n => bif Nat.beq n 2 then some ⟨[0,1,5],0,false⟩ else none
noncomputable def c_laws_heldNodeS : Ctx := mkC Tryz.prog tyT [(86, s_laws_heldFloat32S)] [] [] 49 a_laws_heldNodeS 0
noncomputable def fr_laws_heldNodeS_2 (xs : List NodeD) (k i : Int) : Fr := [(0, .vec tN xs), (1, .int .i64 k), (5, .int .i64 i)]
theorem r_laws_heldNodeS_2 (xs : List NodeD) (k i : Int) (Kn : Fr → Heap → Prop) (K : V → Heap → Prop) : round c_laws_heldNodeS ⟨[0,1,5],0,false⟩ (lb c_laws_heldNodeS 2 Tryz.f59) (fr_laws_heldNodeS_2 xs k i) [] Kn (lk c_laws_heldNodeS 2 Tryz.f59 [] K) =
  cond (decide (i < (↑(List.length xs) : Int)))
    (cond (decide (0 ≤ i))
      ((match xs[Int.toNat i]? with
        | some y0 => cond (Prod.fst y0 != k)
          (K (.int .i64 (-1)) [])
          (cond (decide (0 ≤ i))
            ((match xs[Int.toNat i]? with
              | some y1 => cond (Prod.fst (Prod.snd y1) != IntKind.wrap IntKind.i64 (k + 1))
                (K (.int .i64 (-1)) [])
                (cond (decide (0 ≤ i))
                  ((match xs[Int.toNat i]? with
                    | some y2 => cond (Prod.fst (Prod.snd (Prod.snd y2)) != IntKind.wrap IntKind.i64 (IntKind.wrap IntKind.i64 (k + 1) + 1))
                      (K (.int .i64 (-1)) [])
                      (cond (decide (0 ≤ i))
                        ((match xs[Int.toNat i]? with
                          | some y3 => cond (decide (0 ≤ IntKind.wrap IntKind.i64 (IntKind.wrap IntKind.i64 (IntKind.wrap IntKind.i64 (k + 1) + 1) + 1)) && (decide (IntKind.wrap IntKind.i64 (IntKind.wrap IntKind.i64 (IntKind.wrap IntKind.i64 (k + 1) + 1) + 1) + (↑(List.length (Prod.snd (Prod.snd (Prod.snd y3)))) : Int) ≤ 8388608) && Prod.snd (Prod.snd (Prod.snd y3)) == markF (IntKind.wrap IntKind.i64 (IntKind.wrap IntKind.i64 (IntKind.wrap IntKind.i64 (k + 1) + 1) + 1)) (List.length (Prod.snd (Prod.snd (Prod.snd y3))))))
                            (cond (decide (IntKind.wrap IntKind.i64 (IntKind.wrap IntKind.i64 (IntKind.wrap IntKind.i64 (k + 1) + 1) + 1) + (↑(List.length (Prod.snd (Prod.snd (Prod.snd y3)))) : Int) < 0))
                              (K (.int .i64 (-1)) [])
                              (Kn [(0, (.vec tN (xs))), (1, (.int .i64 (IntKind.wrap IntKind.i64 (IntKind.wrap IntKind.i64 (IntKind.wrap IntKind.i64 (k + 1) + 1) + 1) + (↑(List.length (Prod.snd (Prod.snd (Prod.snd y3)))) : Int)))), (5, (.int .i64 (IntKind.wrap IntKind.i64 (i + 1))))] []))
                            (False)
                          | none => False))
                        (False))
                    | none => False))
                  (False))
              | none => False))
            (False))
        | none => False))
      (False))
    (K (.int .i64 (k)) []) := by kernel_rfl
theorem w_laws_heldNodeS (xs : List NodeD) (k : Int) (K : V → Heap → Prop) : wpFn c_laws_heldNodeS Tryz.f59 (encAs [.cell (.slice tN), .cell tI] (xs, k, ())) [] K =
  LoopE c_laws_heldNodeS ⟨[0, 1, 5], 0, false⟩ (lb c_laws_heldNodeS 2 Tryz.f59) [(0, (.vec tN (xs))), (1, (.int .i64 (k))), (5, (.int .i64 0))] [] (lk c_laws_heldNodeS 2 Tryz.f59 [] K) := by kernel_rfl
noncomputable def s_laws_heldNodeS : Sm := semG [.cell (.slice tN), .cell tI] (fun x => match x with | (xs, k, _) => decide (0 ≤ k) && (decide (k + sumW wN xs ≤ 8388608) && (xs == markL mkN wN k xs))) fun x => match x with | (xs, k, _) => .int .i64 (k + sumW wN xs)
theorem ok_laws_heldNodeS : FnOk Tryz.prog 59 s_laws_heldNodeS := fnOk_typedG (fnOk_runC (C := c_laws_heldNodeS) rfl mixed (.cons ok_laws_heldFloat32S .nil) .nil .nil Tryz.func59 (by kernel_rfl)) fun (x : ((List NodeD) × (Int) × Unit)) wf hg K h => by
  obtain ⟨xs, k, ⟨⟩⟩ := x
  replace hg : (decide (0 ≤ k) && (decide (k + sumW wN xs ≤ 8388608) && (xs == markL mkN wN k xs))) = true := hg
  replace h : K (.int .i64 (k + sumW wN xs)) [] := h
  rw [w_laws_heldNodeS xs k K]
  simp only [Bool.and_eq_true, decide_eq_true_eq, beq_iff_eq] at hg
  obtain ⟨g1, g2, g4⟩ := hg
  have hxl := len_sumW wN_pos xs
  refine loop_run (σ := Nat × Int) (fun s => fr_laws_heldNodeS_2 xs s.2 s.1) (fun s => []) (fun s => s.1 ≤ xs.length ∧ s.2 = k + sumW wN (xs.take s.1)) (fun s => xs.length - s.1) ?_ (0, k) ⟨Nat.zero_le _, by simp [sumW]⟩
  rintro ⟨i, kk⟩ ⟨hi, hkk⟩ Kn hk
  simp only at hi hkk hk ⊢
  rw [r_laws_heldNodeS_2 xs kk i Kn K]
  by_cases hlt : i < xs.length
  · have hx : xs[i]'hlt = mkN kk (xs[i]'hlt) := by
      have := markL_get mkN wN xs k i hlt
      rw [hkk, ← this]
      simp only [← g4]
    have hw := sumW_take wN hlt
    have hle := sumW_le wN xs (i + 1)
    have hwx : wN (xs[i]'hlt) = 3 + (xs[i]'hlt).2.2.2.length := rfl
    rw [i64_of (show -9223372036854775808 ≤ kk + 1 by omega) (by omega), i64_of (show -9223372036854775808 ≤ kk + 1 + 1 by omega) (by omega), i64_of (show -9223372036854775808 ≤ kk + 1 + 1 + 1 by omega) (by omega)]
    simp only [d_lt hlt, d_0, cond_true, Int.toNat_natCast, get_lt hlt]
    generalize hxe : xs[i]'hlt = x at *
    have e1 : x.1 = kk := by rw [hx]; rfl
    have e2 : x.2.1 = kk + 1 := by rw [hx]; rfl
    have e3 : x.2.2.1 = kk + 1 + 1 := by rw [hx]; simp only [mkN]; omega
    have e4 : x.2.2.2 = markF (kk + 1 + 1 + 1) x.2.2.2.length := by
      have : x.2.2.2 = markF (kk + 3) x.2.2.2.length := by conv => lhs; rw [hx, mkN]
      rwa [show kk + 3 = kk + 1 + 1 + 1 by omega] at this
    simp only [e1, e2, e3, bne_self_eq_false, cond_false]
    rw [show decide (0 ≤ kk + 1 + 1 + 1) = true from decide_eq_true (by omega), show decide (kk + 1 + 1 + 1 + (x.2.2.2.length : Int) ≤ 8388608) = true from decide_eq_true (by omega), show (x.2.2.2 == markF (kk + 1 + 1 + 1) x.2.2.2.length) = true from beq_iff_eq.mpr e4]
    simp only [Bool.and_self, cond_true]
    rw [show decide (kk + 1 + 1 + 1 + (x.2.2.2.length : Int) < 0) = false from decide_eq_false (by omega), cond_false]
    rw [i64_of (show -9223372036854775808 ≤ (i : Int) + 1 by omega) (by omega)]
    have := hk (i + 1, kk + wN x) ⟨hlt, by simp only; omega⟩ (by simp only; omega)
    simp only at this
    rw [show kk + 1 + 1 + 1 + (x.2.2.2.length : Int) = kk + ((wN x : Nat) : Int) by omega]
    exact this
  · have : i = xs.length := by omega
    simp only [d_nlt hlt, cond_false]
    rw [hkk, this, List.take_length]
    exact h

end Go.Proofs.YtkppbbaibjhkaaaGreat
