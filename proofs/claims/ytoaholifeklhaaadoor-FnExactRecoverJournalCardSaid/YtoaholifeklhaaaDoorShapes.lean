/- Shapes and lists of shapes, as the laws copy, count and compare them. -/
import Derived.Test.YtoaholifeklhaaaDoorShape
set_option linter.unusedVariables false
set_option linter.unusedSimpArgs false
set_option maxRecDepth 100000
namespace Go.Proofs.YtoaholifeklhaaaDoor
open Go.Ev

--B wNode NodeD → Nat
def wNode (n : NodeD) : Nat := n.2.2.2.length
abbrev tS : Ty := .slice tN
abbrev ShapeD := List NodeD
--B wShape ShapeD → Nat
def wShape (s : ShapeD) : Nat := wList wNode s

/-! laws.szStringS -/
noncomputable def a_laws_szStringS : Nat → Option Ann := fun n => bif Nat.beq n 5 then some ⟨[0,1,5],0,false⟩ else none
noncomputable def c_laws_szStringS : Ctx := mkC Tryd.prog tyT [] [] [] 28 a_laws_szStringS 0
noncomputable def fr_laws_szStringS_5 (xs : List (List UInt8)) (n i : Int) : Fr := [(0, .vec (.str) xs), (1, .int .i64 n), (5, .int .i64 i)]
theorem r_laws_szStringS_5 (xs : List (List UInt8)) (n i : Int) (Kn : Fr → Heap → Prop) (K : V → Heap → Prop) : round c_laws_szStringS ⟨[0,1,5],0,false⟩ (lb c_laws_szStringS 5 Tryd.f5) (fr_laws_szStringS_5 xs n i) [] Kn (lk c_laws_szStringS 5 Tryd.f5 [] K) =
  cond (decide (i < (↑(List.length xs) : Int)))
    (cond (decide (0 ≤ i))
      ((match xs[Int.toNat i]? with
        | some y0 => cond (decide (IntKind.wrap IntKind.i64 (n - (↑(List.length y0) : Int)) < 0))
          (K (.int .i64 (-1)) [])
          (Kn [(0, (.vec .str (xs))), (1, (.int .i64 (IntKind.wrap IntKind.i64 (n - (↑(List.length y0) : Int))))), (5, (.int .i64 (IntKind.wrap IntKind.i64 (i + 1))))] [])
        | none => False))
      (False))
    (K (.int .i64 (n)) []) := by kernel_rfl
theorem w_laws_szStringS (xs : List (List UInt8)) (n : Int) (K : V → Heap → Prop) : wpFn c_laws_szStringS Tryd.f5 (encAs [.cell (.slice (.str)), .cell (.int .i64)] (xs, n, ())) [] K =
  cond (decide (IntKind.wrap IntKind.i64 (n - (↑(List.length xs) : Int)) < 0))
    (K (.int .i64 (-1)) [])
    (LoopE c_laws_szStringS ⟨[0, 1, 5], 0, false⟩ (lb c_laws_szStringS 5 Tryd.f5) [(0, (.vec .str (xs))), (1, (.int .i64 (IntKind.wrap IntKind.i64 (n - (↑(List.length xs) : Int))))), (5, (.int .i64 0))] [] (lk c_laws_szStringS 5 Tryd.f5 [] K)) := by kernel_rfl
noncomputable def s_laws_szStringS : Sm := semG [.cell (.slice (.str)), .cell (.int .i64)] (fun x => match x with | (xs, n, _) => decide (n ≤ 1048576) && decide (0 ≤ n)) fun x => match x with | (xs, n, _) => .int .i64 (szV n (wList (List.length) xs))
theorem ok_laws_szStringS : FnOk Tryd.prog 5 s_laws_szStringS := fnOk_typedG (fnOk_runC (C := c_laws_szStringS) rfl mixed .nil .nil .nil Tryd.func5 (by kernel_rfl)) fun (x : ((List (List UInt8)) × (Int) × Unit)) wf hg K h => by
  obtain ⟨xs, n, ⟨⟩⟩ := x
  replace hg : (decide (n ≤ 1048576) && decide (0 ≤ n)) = true := hg
  replace h : K (.int .i64 (szV n (wList (List.length) xs))) [] := h
  rw [w_laws_szStringS xs n K]
  obtain ⟨⟨wl, wx⟩, wn, _⟩ := wf
  have wl' : xs.length ≤ 9223372036854775807 := wl
  simp only [Bool.and_eq_true, decide_eq_true_eq] at hg
  rw [i64_of (by omega) (by omega)]
  by_cases hn : n - (xs.length : Int) < 0
  · simp only [d_t hn, cond_true]
    rw [szV_no (w := wList (List.length) xs) (by have := wList_ge (List.length) xs; omega)] at h
    exact h
  · simp only [d_f hn, cond_false]
    have e0 : n - (xs.length : Int) = n - (xs.length : Int) - ((((xs.take 0).map (List.length)).sum : Nat) : Int) := by simp
    rw [e0]
    refine loop_run (σ := Nat) (fun i => fr_laws_szStringS_5 xs (n - (xs.length : Int) - ((xs.take i).map (List.length)).sum) i) (fun _ => []) (fun i => i ≤ xs.length ∧ (((xs.take i).map (List.length)).sum : Int) ≤ n - (xs.length : Int)) (fun i => xs.length - i) ?_ 0 ⟨Nat.zero_le _, by simp; omega⟩
    intro i hi Kn hk
    rw [r_laws_szStringS_5 xs (n - (xs.length : Int) - ((xs.take i).map (List.length)).sum) i Kn K]
    by_cases hlt : i < xs.length
    · simp only [d_lt hlt, d_0, cond_true, Int.toNat_natCast, get_lt hlt]
      have hs := sum_take (List.length) hlt
      have hle := sum_le (List.length) xs (i + 1)
      generalize hW : ((xs.take i).map (List.length)).sum = W at *
      have hxl : (xs[i]'hlt).length ≤ 9223372036854775807 := wx _ (List.getElem_mem hlt)
      rw [i64_of (n := n - (xs.length : Int) - (W : Int) - ((xs[i]'hlt).length : Int)) (by omega) (by omega)]
      by_cases h1 : n - (xs.length : Int) - (W : Int) - ((xs[i]'hlt).length : Int) < 0
      · simp only [d_t h1, cond_true]
        rw [szV_no (w := wList (List.length) xs) (by simp only [wList]; omega)] at h
        exact h
      · simp only [d_f h1, cond_false]
        rw [i64_of (by omega) (by omega)]
        have := hk (i + 1) ⟨hlt, by omega⟩ (by omega)
        rw [hs, show n - (xs.length : Int) - ((W + (xs[i]'hlt).length : Nat) : Int) = n - (xs.length : Int) - (W : Int) - ((xs[i]'hlt).length : Int) by omega] at this
        exact this
    · have : i = xs.length := by omega
      subst this
      simp only [d_nlt hlt, cond_false, List.take_length]
      have h2 := hi.2
      rw [List.take_length] at h2
      rw [szV_ok (w := wList (List.length) xs) (by simp only [wList]; omega), show n - ((wList (List.length) xs : Nat) : Int) = n - (xs.length : Int) - ((xs.map (List.length)).sum : Int) by simp only [wList]; omega] at h
      exact h








/-! laws.toStringS -/
noncomputable def a_laws_toStringS : Nat → Option Ann := fun n => bif Nat.beq n 3 then some ⟨[0,3,4],1,false⟩ else none
noncomputable def c_laws_toStringS : Ctx := mkC Tryd.prog tyT [] [] [] 22 a_laws_toStringS 0
noncomputable def fr_laws_toStringS_3 (xs ys : List (List UInt8)) (i : Int) : Fr := [(0, .vec (.str) xs), (3, .obj 0 0), (4, .int .i64 i)]
noncomputable def hp_laws_toStringS_3 (xs ys : List (List UInt8)) (i : Int) : Heap := [.sl 0 (.str) ys]
theorem r_laws_toStringS_3 (xs ys : List (List UInt8)) (i : Int) (Kn : Fr → Heap → Prop) (K : V → Heap → Prop) : round c_laws_toStringS ⟨[0,3,4],1,false⟩ (lb c_laws_toStringS 3 Tryd.f7) (fr_laws_toStringS_3 xs ys i) (hp_laws_toStringS_3 xs ys i) Kn (lk c_laws_toStringS 3 Tryd.f7 [] K) =
  cond (decide (i < (↑(List.length xs) : Int)))
    (cond (decide (0 ≤ i))
      ((match xs[Int.toNat i]? with
        | some y0 => cond (decide (0 ≤ i) && Nat.blt (Int.toNat i) (List.length ys))
          ((match ys[Int.toNat i]? with
            | some x1 => Kn [(0, (.vec .str (xs))), (3, (.obj 0 0)), (4, (.int .i64 (IntKind.wrap IntKind.i64 (i + 1))))] [(.sl 0 .str (List.set ys (Int.toNat i) y0))]
            | none => False))
          (False)
        | none => False))
      (False))
    (K (.vec .str (ys)) []) := by kernel_rfl
theorem w_laws_toStringS (xs : List (List UInt8)) (K : V → Heap → Prop) : wpFn c_laws_toStringS Tryd.f7 (encAs [.cell (.slice (.str))] (xs, ())) [] K =
  cond (decide (0 ≤ (↑(List.length xs) : Int)) && (decide ((↑(List.length xs) : Int) ≤ (↑(List.length xs) : Int)) && decide ((↑16 : Int) * (↑(List.length xs) : Int) ≤ 281474976710656)))
    (LoopE c_laws_toStringS ⟨[0, 3, 4], 1, false⟩ (lb c_laws_toStringS 3 Tryd.f7) [(0, (.vec .str (xs))), (3, (.obj 0 0)), (4, (.int .i64 0))] [(.sl 0 .str (List.replicate (Int.toNat (↑(List.length xs) : Int)) (Array.toList (ByteArray.data { data := #[] }))))] (lk c_laws_toStringS 3 Tryd.f7 [] K))
    (False) := by kernel_rfl
noncomputable def s_laws_toStringS : Sm := semG [.cell (.slice (.str))] (fun x => match x with | (xs, _) => decide (xs.length ≤ 1048576)) fun x => match x with | (xs, _) => .vec (.str) xs
theorem ok_laws_toStringS : FnOk Tryd.prog 7 s_laws_toStringS := fnOk_typedG (fnOk_runC (C := c_laws_toStringS) rfl mixed .nil .nil .nil Tryd.func7 (by kernel_rfl)) fun (x : ((List (List UInt8)) × Unit)) wf hg K h => by
  obtain ⟨xs, ⟨⟩⟩ := x
  replace hg : (decide (xs.length ≤ 1048576)) = true := hg
  replace h : K (.vec (.str) xs) [] := h
  rw [w_laws_toStringS xs K]
  simp only [decide_eq_true_eq] at hg
  skip
  rw [d_0, d_t (Int.le_refl _), d_t (by omega)]
  simp only [Bool.and_self, cond_true, Int.toNat_natCast]
  refine loop_run (σ := Nat) (fun i => fr_laws_toStringS_3 xs [] i) (fun i => hp_laws_toStringS_3 xs (xs.take i ++ List.replicate (xs.length - i) []) i) (fun i => i ≤ xs.length) (fun i => xs.length - i) ?_ 0 (Nat.zero_le _)
  intro i hi Kn hk
  rw [show fr_laws_toStringS_3 xs [] i = fr_laws_toStringS_3 xs (xs.take i ++ List.replicate (xs.length - i) []) i from rfl, r_laws_toStringS_3 xs (xs.take i ++ List.replicate (xs.length - i) []) i Kn K]
  by_cases hlt : i < xs.length
  · have hl : (xs.take i ++ List.replicate (xs.length - i) []).length = xs.length := by rw [List.length_append, List.length_take, List.length_replicate]; omega
    have hl' : i < (xs.take i ++ List.replicate (xs.length - i) []).length := by omega
    simp only [d_lt hlt, d_0, cond_true, Int.toNat_natCast, get_lt hlt, blt_t hl', get_lt hl', Bool.and_self]
    rw [i64_of (by omega) (by omega), copy_step hlt rfl rfl]
    exact hk (i + 1) hlt (by omega)
  · have : i = xs.length := by omega
    subst this
    simp only [d_nlt hlt, cond_false, List.take_length, Nat.sub_self, List.replicate_zero, List.append_nil]
    exact h


def fitN (n : NodeD) : Bool := decide (n.2.2.2.length ≤ 1048576)
def fitS (s : ShapeD) : Bool := decide (s.length ≤ 1048576) && s.all fitN




/-! laws.eqStringS -/
noncomputable def a_laws_eqStringS : Nat → Option Ann := fun n => bif Nat.beq n 4 then some ⟨[0,1,5],0,false⟩ else none
noncomputable def c_laws_eqStringS : Ctx := mkC Tryd.prog tyT [] [] [] 26 a_laws_eqStringS 0
noncomputable def fr_laws_eqStringS_4 (xs ys : List (List UInt8)) (i : Int) : Fr := [(0, .vec (.str) xs), (1, .vec (.str) ys), (5, .int .i64 i)]
theorem r_laws_eqStringS_4 (xs ys : List (List UInt8)) (i : Int) (Kn : Fr → Heap → Prop) (K : V → Heap → Prop) : round c_laws_eqStringS ⟨[0,1,5],0,false⟩ (lb c_laws_eqStringS 4 Tryd.f9) (fr_laws_eqStringS_4 xs ys i) [] Kn (lk c_laws_eqStringS 4 Tryd.f9 [] K) =
  cond (decide (i < (↑(List.length xs) : Int)))
    (cond (decide (0 ≤ i))
      ((match xs[Int.toNat i]? with
        | some y0 => cond (decide (0 ≤ i))
          ((match ys[Int.toNat i]? with
            | some y1 => cond (!bytesEq y0 y1)
              (K (.bool false) [])
              (Kn [(0, (.vec .str (xs))), (1, (.vec .str (ys))), (5, (.int .i64 (IntKind.wrap IntKind.i64 (i + 1))))] [])
            | none => False))
          (False)
        | none => False))
      (False))
    (K (.bool true) []) := by kernel_rfl
theorem w_laws_eqStringS (xs ys : List (List UInt8)) (K : V → Heap → Prop) : wpFn c_laws_eqStringS Tryd.f9 (encAs [.cell (.slice (.str)), .cell (.slice (.str))] (xs, ys, ())) [] K =
  cond ((↑(List.length xs) : Int) != (↑(List.length ys) : Int))
    (K (.bool false) [])
    (LoopE c_laws_eqStringS ⟨[0, 1, 5], 0, false⟩ (lb c_laws_eqStringS 4 Tryd.f9) [(0, (.vec .str (xs))), (1, (.vec .str (ys))), (5, (.int .i64 0))] [] (lk c_laws_eqStringS 4 Tryd.f9 [] K)) := by kernel_rfl
noncomputable def s_laws_eqStringS : Sm := semG [.cell (.slice (.str)), .cell (.slice (.str))] (fun x => match x with | (xs, ys, _) => xs == ys) fun x => match x with | (xs, ys, _) => .bool true
theorem ok_laws_eqStringS : FnOk Tryd.prog 9 s_laws_eqStringS := fnOk_typedG (fnOk_runC (C := c_laws_eqStringS) rfl mixed .nil .nil .nil Tryd.func9 (by kernel_rfl)) fun (x : ((List (List UInt8)) × (List (List UInt8)) × Unit)) wf hg K h => by
  obtain ⟨xs, ys, ⟨⟩⟩ := x
  replace hg : (xs == ys) = true := hg
  replace h : K (.bool true) [] := h
  rw [w_laws_eqStringS xs ys K]
  have e : xs = ys := by simpa using hg
  subst e
  obtain ⟨⟨wl, _⟩, _⟩ := wf
  rw [bne_self_eq_false, cond_false]
  refine loop_run (σ := Nat) (fun i => fr_laws_eqStringS_4 xs xs i) (fun _ => []) (fun i => i ≤ xs.length) (fun i => xs.length - i) ?_ 0 (Nat.zero_le _)
  intro i hi Kn hk
  rw [r_laws_eqStringS_4 xs xs i Kn K]
  by_cases hlt : i < xs.length
  · simp only [d_lt hlt, d_0, cond_true, Int.toNat_natCast, get_lt hlt, beq_self_eq_true, bne_self_eq_false, bytesEq, Bool.not_true, cond_false]
    have hm : xs.length ≤ 9223372036854775807 := wl
    rw [i64_of (by omega) (by omega)]
    exact hk (i + 1) hlt (by omega)
  · simp only [d_nlt hlt, cond_false]
    exact h





theorem fitS_of {s : ShapeD} (h : wShape s ≤ 1048576) : fitS s = true := by
  unfold fitS
  have h1 := wList_ge wNode s
  simp only [Bool.and_eq_true, decide_eq_true_eq]
  refine ⟨by unfold wShape at h; omega, List.all_eq_true.2 fun n hn => decide_eq_true ?_⟩
  have := mem_le wNode hn
  unfold wShape wList at h
  have e : wNode n = n.2.2.2.length := rfl
  omega

end Go.Proofs.YtoaholifeklhaaaDoor
