/- Vectors and lists: equality, copies, sizes. -/
import Derived.Test.YtkppbbaibjhkaaaGreatPre
set_option linter.unusedVariables false
set_option linter.unusedSimpArgs false
set_option maxRecDepth 100000
namespace Go.Proofs.YtkppbbaibjhkaaaGreat
open Go.Ev
abbrev tI : Ty := .int .i64

/-! sizes -/
--B szV Int → Nat → Int
def szV (n : Int) (w : Nat) : Int := bif decide (n - (w : Int) < 0) then (-1) else n - w
theorem szV_no {n : Int} {w : Nat} (h : n - (w : Int) < 0) : szV n w = -1 := by unfold szV; rw [d_t h]; rfl
theorem szV_ok {n : Int} {w : Nat} (h : 0 ≤ n - (w : Int)) : szV n w = n - w := by unfold szV; rw [d_f (by omega)]; rfl
--B wList {α : Type} → (α → Nat) → List α → Nat
def wList {α : Type} (w : α → Nat) (xs : List α) : Nat := xs.length + (xs.map w).sum
theorem wList_ge {α : Type} (w : α → Nat) (xs : List α) : xs.length ≤ wList w xs := by unfold wList; omega
theorem sum_take {α : Type} (w : α → Nat) {xs : List α} {i : Nat} (hi : i < xs.length) : ((xs.take (i + 1)).map w).sum = ((xs.take i).map w).sum + w (xs[i]'hi) := by
  rw [take_one hi, List.map_append, List.sum_append]
  simp
theorem sum_le {α : Type} (w : α → Nat) : ∀ (xs : List α) (i : Nat), ((xs.take i).map w).sum ≤ (xs.map w).sum
  | [], i => by simp
  | x :: xs, 0 => by simp
  | x :: xs, i + 1 => by
    have := sum_le w xs i
    simp only [List.take_succ_cons, List.map_cons, List.sum_cons]
    omega
theorem mem_le {α : Type} (w : α → Nat) {xs : List α} {x : α} (h : x ∈ xs) : w x ≤ (xs.map w).sum := by
  induction xs with
  | nil => cases h
  | cons y xs ih =>
    simp only [List.map_cons, List.sum_cons]
    rcases List.mem_cons.1 h with e | e
    · subst e; omega
    · have := ih e; omega





/-! laws.toVector -/
noncomputable def c_laws_toVector : Ctx := mkC Tryz.prog tyT [] [] [] 14 (fun _ => none) 0
theorem w_laws_toVector (u : V3) (K : V → Heap → Prop) : wpFn c_laws_toVector Tryz.f69 (encAs [.agg tV] (u, ())) [] K =
  K (.agg [(.float .f32 (Prod.fst u)), (.float .f32 (Prod.fst (Prod.snd u))), (.float .f32 (Prod.snd (Prod.snd u)))]) [] := by kernel_rfl
noncomputable def s_laws_toVector : Sm := semT [.agg tV] fun x => match x with | (u, _) => .agg (enc tV u)
theorem ok_laws_toVector : FnOk Tryz.prog 69 s_laws_toVector := fnOk_typed (fnOk_runC (C := c_laws_toVector) rfl mixed .nil .nil .nil Tryz.func69 (by kernel_rfl)) fun (x : ((V3) × Unit)) wf K h => by
  obtain ⟨u, ⟨⟩⟩ := x
  replace h : K (.agg (enc tV u)) [] := h
  rw [w_laws_toVector u K]
  exact h


/-! laws.sameFloat -/
noncomputable def c_laws_sameFloat : Ctx := mkC Tryz.prog tyT [] [] [] 37 (fun _ => none) 0
theorem w_laws_sameFloat (a b : Nat) (K : V → Heap → Prop) : wpFn c_laws_sameFloat Tryz.f103 (encAs [.cell (.float .f64), .cell (.float .f64)] (a, b, ())) [] K =
  cond (!feq FloatKind.f64 a a)
    (cond (!feq FloatKind.f64 a a)
      (K (.bool (!feq FloatKind.f64 b b)) [])
      (K (.bool false) []))
    (cond (!feq FloatKind.f64 b b)
      (cond (!feq FloatKind.f64 a a)
        (K (.bool (!feq FloatKind.f64 b b)) [])
        (K (.bool false) []))
      (cond (feq FloatKind.f64 a 0)
        (cond (feq FloatKind.f64 b 0)
          (K (.bool (fgt FloatKind.f64 (fdiv FloatKind.f64 4607182418800017408 a) 0 == fgt FloatKind.f64 (fdiv FloatKind.f64 4607182418800017408 b) 0)) [])
          (K (.bool (feq FloatKind.f64 a b)) []))
        (K (.bool (feq FloatKind.f64 a b)) []))) := by kernel_rfl
noncomputable def s_laws_sameFloat : Sm := semG [.cell (.float .f64), .cell (.float .f64)] (fun x => match x with | (a, b, _) => a == b) fun x => match x with | (a, b, _) => .bool true
theorem ok_laws_sameFloat : FnOk Tryz.prog 103 s_laws_sameFloat := fnOk_typedG (fnOk_runC (C := c_laws_sameFloat) rfl mixed .nil .nil .nil Tryz.func103 (by kernel_rfl)) fun (x : ((Nat) × (Nat) × Unit)) wf hg K h => by
  obtain ⟨a, b, ⟨⟩⟩ := x
  replace hg : (a == b) = true := hg
  replace h : K (.bool true) [] := h
  rw [w_laws_sameFloat a b K]
  have e : a = b := by simpa using hg
  subst e
  rw [feq_self]
  cases nan .f64 a <;> simp only [Bool.not_true, Bool.not_false, cond_true, cond_false, beq_self_eq_true]
  · cases feq .f64 a 0 <;> exact h
  · exact h

/-! laws.eqVector -/
noncomputable def c_laws_eqVector : Ctx := mkC Tryz.prog tyT [(103, s_laws_sameFloat)] [] [] 29 (fun _ => none) 0
theorem w_laws_eqVector (u v : V3) (K : V → Heap → Prop) : wpFn c_laws_eqVector Tryz.f84 (encAs [.agg tV, .agg tV] (u, v, ())) [] K =
  cond (widen (Prod.fst u) == widen (Prod.fst v))
    (cond (widen (Prod.fst (Prod.snd u)) == widen (Prod.fst (Prod.snd v)))
      (cond (widen (Prod.snd (Prod.snd u)) == widen (Prod.snd (Prod.snd v)))
        (K (.bool true) [])
        (False))
      (False))
    (False) := by kernel_rfl
noncomputable def s_laws_eqVector : Sm := semG [.agg tV, .agg tV] (fun x => match x with | (u, v, _) => u == v) fun x => match x with | (u, v, _) => .bool true
theorem ok_laws_eqVector : FnOk Tryz.prog 84 s_laws_eqVector := fnOk_typedG (fnOk_runC (C := c_laws_eqVector) rfl mixed (.cons ok_laws_sameFloat .nil) .nil .nil Tryz.func84 (by kernel_rfl)) fun (x : ((V3) × (V3) × Unit)) wf hg K h => by
  obtain ⟨u, v, ⟨⟩⟩ := x
  replace hg : (u == v) = true := hg
  replace h : K (.bool true) [] := h
  rw [w_laws_eqVector u v K]
  have e : u = v := by simpa using hg
  subst e
  simp only [beq_self_eq_true, cond_true]
  exact h


/-! laws.eqFloat32S -/
noncomputable def a_laws_eqFloat32S : Nat → Option Ann := fun n => bif Nat.beq n 4 then some ⟨[0,1,5],0,false⟩ else none
noncomputable def c_laws_eqFloat32S : Ctx := mkC Tryz.prog tyT [(103, s_laws_sameFloat)] [] [] 29 a_laws_eqFloat32S 0
noncomputable def fr_laws_eqFloat32S_4 (xs ys : List (Nat)) (i : Int) : Fr := [(0, .vec (tF) xs), (1, .vec (tF) ys), (5, .int .i64 i)]
theorem r_laws_eqFloat32S_4 (xs ys : List (Nat)) (i : Int) (Kn : Fr → Heap → Prop) (K : V → Heap → Prop) : round c_laws_eqFloat32S ⟨[0,1,5],0,false⟩ (lb c_laws_eqFloat32S 4 Tryz.f102) (fr_laws_eqFloat32S_4 xs ys i) [] Kn (lk c_laws_eqFloat32S 4 Tryz.f102 [] K) =
  cond (decide (i < (↑(List.length xs) : Int)))
    (cond (decide (0 ≤ i))
      ((match xs[Int.toNat i]? with
        | some y0 => cond (decide (0 ≤ i))
          ((match ys[Int.toNat i]? with
            | some y1 => cond (widen y0 == widen y1)
              (Kn [(0, (.vec (.float .f32) (xs))), (1, (.vec (.float .f32) (ys))), (5, (.int .i64 (IntKind.wrap IntKind.i64 (i + 1))))] [])
              (False)
            | none => False))
          (False)
        | none => False))
      (False))
    (K (.bool true) []) := by kernel_rfl
theorem w_laws_eqFloat32S (xs ys : List (Nat)) (K : V → Heap → Prop) : wpFn c_laws_eqFloat32S Tryz.f102 (encAs [.cell (.slice (tF)), .cell (.slice (tF))] (xs, ys, ())) [] K =
  cond ((↑(List.length xs) : Int) != (↑(List.length ys) : Int))
    (K (.bool false) [])
    (LoopE c_laws_eqFloat32S ⟨[0, 1, 5], 0, false⟩ (lb c_laws_eqFloat32S 4 Tryz.f102) [(0, (.vec (.float .f32) (xs))), (1, (.vec (.float .f32) (ys))), (5, (.int .i64 0))] [] (lk c_laws_eqFloat32S 4 Tryz.f102 [] K)) := by kernel_rfl
noncomputable def s_laws_eqFloat32S : Sm := semG [.cell (.slice (tF)), .cell (.slice (tF))] (fun x => match x with | (xs, ys, _) => xs == ys) fun x => match x with | (xs, ys, _) => .bool true
theorem ok_laws_eqFloat32S : FnOk Tryz.prog 102 s_laws_eqFloat32S := fnOk_typedG (fnOk_runC (C := c_laws_eqFloat32S) rfl mixed (.cons ok_laws_sameFloat .nil) .nil .nil Tryz.func102 (by kernel_rfl)) fun (x : ((List (Nat)) × (List (Nat)) × Unit)) wf hg K h => by
  obtain ⟨xs, ys, ⟨⟩⟩ := x
  replace hg : (xs == ys) = true := hg
  replace h : K (.bool true) [] := h
  rw [w_laws_eqFloat32S xs ys K]
  have e : xs = ys := by simpa using hg
  subst e
  obtain ⟨⟨wl, _⟩, _⟩ := wf
  rw [bne_self_eq_false, cond_false]
  refine loop_run (σ := Nat) (fun i => fr_laws_eqFloat32S_4 xs xs i) (fun _ => []) (fun i => i ≤ xs.length) (fun i => xs.length - i) ?_ 0 (Nat.zero_le _)
  intro i hi Kn hk
  rw [r_laws_eqFloat32S_4 xs xs i Kn K]
  by_cases hlt : i < xs.length
  · simp only [d_lt hlt, d_0, cond_true, Int.toNat_natCast, get_lt hlt, beq_self_eq_true]
    have hm : xs.length ≤ 9223372036854775807 := wl
    rw [i64_of (by omega) (by omega)]
    exact hk (i + 1) hlt (by omega)
  · simp only [d_nlt hlt, cond_false]
    exact h

/-! laws.szFloat32S -/
noncomputable def c_laws_szFloat32S : Ctx := mkC Tryz.prog tyT [] [] [] 12 (fun _ => none) 0
theorem w_laws_szFloat32S (xs : List (Nat)) (n : Int) (K : V → Heap → Prop) : wpFn c_laws_szFloat32S Tryz.f87 (encAs [.cell (.slice (tF)), .cell (.int .i64)] (xs, n, ())) [] K =
  cond (decide (IntKind.wrap IntKind.i64 (n - (↑(List.length xs) : Int)) < 0))
    (K (.int .i64 (-1)) [])
    (K (.int .i64 (IntKind.wrap IntKind.i64 (n - (↑(List.length xs) : Int)))) []) := by kernel_rfl
noncomputable def s_laws_szFloat32S : Sm := semG [.cell (.slice (tF)), .cell (.int .i64)] (fun x => match x with | (xs, n, _) => decide (n ≤ 1048576) && decide (0 ≤ n)) fun x => match x with | (xs, n, _) => .int .i64 (szV n xs.length)
theorem ok_laws_szFloat32S : FnOk Tryz.prog 87 s_laws_szFloat32S := fnOk_typedG (fnOk_runC (C := c_laws_szFloat32S) rfl mixed .nil .nil .nil Tryz.func87 (by kernel_rfl)) fun (x : ((List (Nat)) × (Int) × Unit)) wf hg K h => by
  obtain ⟨xs, n, ⟨⟩⟩ := x
  replace hg : (decide (n ≤ 1048576) && decide (0 ≤ n)) = true := hg
  replace h : K (.int .i64 (szV n xs.length)) [] := h
  rw [w_laws_szFloat32S xs n K]
  obtain ⟨⟨wl, _⟩, wn, _⟩ := wf
  have wl' : xs.length ≤ 9223372036854775807 := wl
  simp only [Bool.and_eq_true, decide_eq_true_eq] at hg
  rw [i64_of (by omega) (by omega)]
  unfold szV at h
  cases e : decide (n - (xs.length : Int) < 0) <;> simp only [e, cond_true, cond_false] at h ⊢ <;> exact h

/-! laws.toFloat32S -/
noncomputable def a_laws_toFloat32S : Nat → Option Ann := fun n => bif Nat.beq n 3 then some ⟨[0,3,4],1,false⟩ else none
noncomputable def c_laws_toFloat32S : Ctx := mkC Tryz.prog tyT [] [] [] 22 a_laws_toFloat32S 0
noncomputable def fr_laws_toFloat32S_3 (xs ys : List (Nat)) (i : Int) : Fr := [(0, .vec (tF) xs), (3, .obj 0 0), (4, .int .i64 i)]
noncomputable def hp_laws_toFloat32S_3 (xs ys : List (Nat)) (i : Int) : Heap := [.sl 0 (tF) ys]
theorem r_laws_toFloat32S_3 (xs ys : List (Nat)) (i : Int) (Kn : Fr → Heap → Prop) (K : V → Heap → Prop) : round c_laws_toFloat32S ⟨[0,3,4],1,false⟩ (lb c_laws_toFloat32S 3 Tryz.f92) (fr_laws_toFloat32S_3 xs ys i) (hp_laws_toFloat32S_3 xs ys i) Kn (lk c_laws_toFloat32S 3 Tryz.f92 [] K) =
  cond (decide (i < (↑(List.length xs) : Int)))
    (cond (decide (0 ≤ i))
      ((match xs[Int.toNat i]? with
        | some y0 => cond (decide (0 ≤ i) && Nat.blt (Int.toNat i) (List.length ys))
          ((match ys[Int.toNat i]? with
            | some x1 => Kn [(0, (.vec (.float .f32) (xs))), (3, (.obj 0 0)), (4, (.int .i64 (IntKind.wrap IntKind.i64 (i + 1))))] [(.sl 0 (.float .f32) (List.set ys (Int.toNat i) y0))]
            | none => False))
          (False)
        | none => False))
      (False))
    (K (.vec (.float .f32) (ys)) []) := by kernel_rfl
theorem w_laws_toFloat32S (xs : List (Nat)) (K : V → Heap → Prop) : wpFn c_laws_toFloat32S Tryz.f92 (encAs [.cell (.slice (tF))] (xs, ())) [] K =
  cond (decide (0 ≤ (↑(List.length xs) : Int)) && (decide ((↑(List.length xs) : Int) ≤ (↑(List.length xs) : Int)) && decide ((↑4 : Int) * (↑(List.length xs) : Int) ≤ 281474976710656)))
    (LoopE c_laws_toFloat32S ⟨[0, 3, 4], 1, false⟩ (lb c_laws_toFloat32S 3 Tryz.f92) [(0, (.vec (.float .f32) (xs))), (3, (.obj 0 0)), (4, (.int .i64 0))] [(.sl 0 (.float .f32) (List.replicate (Int.toNat (↑(List.length xs) : Int)) 0))] (lk c_laws_toFloat32S 3 Tryz.f92 [] K))
    (False) := by kernel_rfl
noncomputable def s_laws_toFloat32S : Sm := semG [.cell (.slice (tF))] (fun x => match x with | (xs, _) => decide (xs.length ≤ 1048576)) fun x => match x with | (xs, _) => .vec (tF) xs
theorem ok_laws_toFloat32S : FnOk Tryz.prog 92 s_laws_toFloat32S := fnOk_typedG (fnOk_runC (C := c_laws_toFloat32S) rfl mixed .nil .nil .nil Tryz.func92 (by kernel_rfl)) fun (x : ((List (Nat)) × Unit)) wf hg K h => by
  obtain ⟨xs, ⟨⟩⟩ := x
  replace hg : (decide (xs.length ≤ 1048576)) = true := hg
  replace h : K (.vec (tF) xs) [] := h
  rw [w_laws_toFloat32S xs K]
  simp only [decide_eq_true_eq] at hg
  skip
  rw [d_0, d_t (Int.le_refl _), d_t (by omega)]
  simp only [Bool.and_self, cond_true, Int.toNat_natCast]
  refine loop_run (σ := Nat) (fun i => fr_laws_toFloat32S_3 xs [] i) (fun i => hp_laws_toFloat32S_3 xs (xs.take i ++ List.replicate (xs.length - i) 0) i) (fun i => i ≤ xs.length) (fun i => xs.length - i) ?_ 0 (Nat.zero_le _)
  intro i hi Kn hk
  rw [show fr_laws_toFloat32S_3 xs [] i = fr_laws_toFloat32S_3 xs (xs.take i ++ List.replicate (xs.length - i) 0) i from rfl, r_laws_toFloat32S_3 xs (xs.take i ++ List.replicate (xs.length - i) 0) i Kn K]
  by_cases hlt : i < xs.length
  · have hl : (xs.take i ++ List.replicate (xs.length - i) 0).length = xs.length := by rw [List.length_append, List.length_take, List.length_replicate]; omega
    have hl' : i < (xs.take i ++ List.replicate (xs.length - i) 0).length := by omega
    simp only [d_lt hlt, d_0, cond_true, Int.toNat_natCast, get_lt hlt, blt_t hl', get_lt hl', Bool.and_self]
    rw [i64_of (by omega) (by omega), copy_step hlt rfl rfl]
    exact hk (i + 1) hlt (by omega)
  · have : i = xs.length := by omega
    subst this
    simp only [d_nlt hlt, cond_false, List.take_length, Nat.sub_self, List.replicate_zero, List.append_nil]
    exact h












end Go.Proofs.YtkppbbaibjhkaaaGreat
