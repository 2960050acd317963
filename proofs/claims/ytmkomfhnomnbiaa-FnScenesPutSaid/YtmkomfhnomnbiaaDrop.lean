/- A scene without a thing. -/
import Derived.Test.YtmkomfhnomnbiaaScn
set_option linter.unusedVariables false
set_option linter.unusedSimpArgs false
set_option maxRecDepth 100000
namespace Go.Proofs.Ytmkomfhnomnbiaa
open Go.Ev

def noT (s : Str) (t : ThingD) : Bool := !(t.1 == s)
def dropL (ts : List ThingD) (s : Str) : List ThingD := ts.filter (noT s)
def dropOk (ts : List ThingD) (s : Str) : Bool := sceneB ts && findB ts s
def dropR (ts : List ThingD) (s : Str) : List ThingD := bif dropOk ts s then dropL ts s else []
theorem sceneB_drop {ts : List ThingD} (s : Str) (h : sceneB ts = true) : sceneB (dropL ts s) = true := by
  obtain ⟨h1, h2, h3⟩ := sceneB_iff.1 h
  exact sceneB_iff.2 ⟨fun t ht => h1 t ((List.mem_filter.1 ht).1), h2.filter _, Nat.le_trans (List.length_filter_le _ _) h3⟩
theorem drop_eq {ts : List ThingD} {s : Str} (h : sceneB ts = true) (hf : findB ts s = true) : ts.take (findN ts s) ++ ts.drop (findN ts s + 1) = dropL ts s := by
  obtain ⟨f1, hlt⟩ := (find_spec h s).1 hf
  obtain ⟨_, h2, _⟩ := sceneB_iff.1 h
  rw [List.pairwise_iff_getElem] at h2
  generalize findN ts s = n at *
  have hn : (ts[n]'hlt).1 = s := by
    unfold idxT idxF at f1
    cases ha : ts.any (fun t => t.1 == s) with
    | false => rw [ha] at f1; simp only [cond_false] at f1; omega
    | true =>
      rw [ha] at f1
      simp only [cond_true] at f1
      have f1 : ts.findIdx (fun t => t.1 == s) = n := by exact_mod_cast f1
      have := List.findIdx_getElem (xs := ts) (p := fun t : ThingD => t.1 == s) (w := by omega)
      simp only [f1] at this
      simpa using this
  have keep : ∀ (j : Nat) (hj : j < ts.length), j ≠ n → noT s (ts[j]'hj) = true := by
    intro j hj hjn
    unfold noT
    cases e : ((ts[j]'hj).1 == s) with
    | false => rfl
    | true =>
      have e : (ts[j]'hj).1 = s := by simpa using e
      rcases Nat.lt_or_gt_of_ne hjn with hl | hl
      · have := h2 j n hj hlt hl
        rw [e, hn, less_irrefl] at this
        cases this
      · have := h2 n j hlt hj hl
        rw [e, hn, less_irrefl] at this
        cases this
  have e1 : ts = ts.take n ++ (ts[n]'hlt :: ts.drop (n + 1)) := by
    rw [← List.drop_eq_getElem_cons hlt, List.take_append_drop]
  unfold dropL
  conv => rhs; rw [e1]
  rw [List.filter_append, List.filter_cons]
  have e2 : noT s (ts[n]'hlt) = false := by unfold noT; rw [hn, beq_self_eq_true]; rfl
  rw [e2, if_neg (by decide)]
  congr 1
  · refine (List.filter_eq_self.2 fun t ht => ?_).symm
    obtain ⟨j, hj, rfl⟩ := List.mem_iff_getElem.1 ht
    rw [List.length_take] at hj
    rw [List.getElem_take]
    exact keep j (by omega) (by omega)
  · refine (List.filter_eq_self.2 fun t ht => ?_).symm
    obtain ⟨j, hj, rfl⟩ := List.mem_iff_getElem.1 ht
    rw [List.length_drop] at hj
    rw [List.getElem_drop]
    exact keep (n + 1 + j) (by omega) (by omega)

/-! walks -/
/-! slices.Grow[[]impl.Thing,impl.Thing] -/
noncomputable def c_slices_Grow__implThing_vz : Ctx := mkC Try.prog tyT [] [] [] 27 (fun _ => none) 0 false [] false true
theorem w_slices_Grow__implThing_vz (n : Int) (K : V → Heap → Prop) : wpFn c_slices_Grow__implThing_vz Try.f38 (encAs [.nothing, .cell tI] ((), n, ())) [] K =
  cond (decide (n < 0))
    (False)
    (cond (decide (IntKind.wrap IntKind.i64 (n - IntKind.wrap IntKind.i64 (0 - 0)) > 0))
      (cond (decide (0 < IntKind.wrap IntKind.i64 (n - IntKind.wrap IntKind.i64 (0 - 0))) && decide (IntKind.wrap IntKind.i64 (n - IntKind.wrap IntKind.i64 (0 - 0)) * (↑64 : Int) ≤ 140737488355328))
        (K (.vec tT (List.take 0 (List.replicate (Int.toNat (IntKind.wrap IntKind.i64 (n - IntKind.wrap IntKind.i64 (0 - 0)))) (Array.toList (ByteArray.data { data := #[] }), [], [])))) [])
        (False))
      (K .nils [])) := by kernel_rfl
noncomputable def s_slices_Grow__implThing_vz : Sm := semG [.nothing, .cell tI] (fun x => match x with | (_, n, _) => n == 0) fun x => match x with | (_, n, _) => .nils
theorem ok_slices_Grow__implThing_vz : FnOk Try.prog 38 s_slices_Grow__implThing_vz := fnOk_typedG (fnOk_runC (C := c_slices_Grow__implThing_vz) rfl mixed .nil .nil .nil Try.func38 (by kernel_rfl)) fun (x : (Unit × (Int) × Unit)) wf hg K h => by
  obtain ⟨⟨⟩, n, ⟨⟩⟩ := x
  replace hg : (n == 0) = true := hg
  replace h : K (.nils) [] := h
  rw [w_slices_Grow__implThing_vz n K]
  have hn : n = 0 := by simpa using hg
  subst hn
  exact h

/-! slices.Grow[[]impl.Thing,impl.Thing] -/
noncomputable def c_slices_Grow__implThing_vp : Ctx := mkC Try.prog tyT [] [] [] 27 (fun _ => none) 0 false [] false true
noncomputable def gp_slices_Grow__implThing_vp : List (List (Option Ty)) := List.map giveR [.cell (.own tT)]
theorem w_slices_Grow__implThing_vp (n : Int) (K : V → Heap → Prop) : wpFnG gp_slices_Grow__implThing_vp c_slices_Grow__implThing_vp Try.f38 (encAs [.nothing, .cell tI] ((), n, ())) [] K =
  cond (decide (n < 0))
    (False)
    (cond (decide (IntKind.wrap IntKind.i64 (n - IntKind.wrap IntKind.i64 (0 - 0)) > 0))
      (cond (decide (0 < IntKind.wrap IntKind.i64 (n - IntKind.wrap IntKind.i64 (0 - 0))) && decide (IntKind.wrap IntKind.i64 (n - IntKind.wrap IntKind.i64 (0 - 0)) * (↑64 : Int) ≤ 140737488355328))
        (K (.obj 0 0) [(.sl 0 tT (List.take 0 (List.replicate (Int.toNat (IntKind.wrap IntKind.i64 (n - IntKind.wrap IntKind.i64 (0 - 0)))) (Array.toList (ByteArray.data { data := #[] }), [], []))))])
        (False))
      (K (.obj 0 0) [(.sl 0 tT ([]))])) := by kernel_rfl
noncomputable def s_slices_Grow__implThing_vp : Sm := semV [.nothing, .cell tI] [.cell (.own tT)] (fun x => match x with | (_, n, _) => decide (0 < n) && decide (n * 64 ≤ 140737488355328)) fun x => match x with | (_, n, _) => ([], ())
theorem ok_slices_Grow__implThing_vp : FnOkL Try.prog 38 s_slices_Grow__implThing_vp := fnOkO_give (fnOkO_runG (C := c_slices_Grow__implThing_vp) gp_slices_Grow__implThing_vp rfl mixed .nil .nil .nil Try.func38 (by kernel_rfl)) rfl fun (x : (Unit × (Int) × Unit)) wf hg K h => by
  obtain ⟨⟨⟩, n, ⟨⟩⟩ := x
  replace hg : (decide (0 < n) && decide (n * 64 ≤ 140737488355328)) = true := hg
  replace h : K (tup (valRs [.cell (.own tT)] (([], ())) 0)) (thRs [.cell (.own tT)] (([], ()))) := h
  rw [w_slices_Grow__implThing_vp n K]
  simp only [Bool.and_eq_true, decide_eq_true_eq] at hg
  obtain ⟨g1, g2⟩ := hg
  have e0 : IntKind.i64.wrap (0 - 0) = 0 := rfl
  have e1 : IntKind.i64.wrap (n - 0) = n := by rw [Int.sub_zero]; exact i64_of (by omega) (by omega)
  simp only [d_f (show ¬ n < 0 by omega), cond_false, e0, e1, d_t (show n > 0 by omega), cond_true, d_t (show 0 < n by omega), List.take_zero]
  exact cond_intro (by rw [Bool.true_and]; exact decide_eq_true (by omega)) h

abbrev LLD := List (List ThingD)
def slotM (m : Int) : V := match m with | 0 => .nils | _ => .obj 0 0
def lenL (ll : List (List ThingD)) : Nat := sumW List.length ll
theorem lenL_flat (ll : List (List ThingD)) : ll.flatten.length = lenL ll := by unfold lenL sumW; exact List.length_flatten
theorem flat_take {ll : List (List ThingD)} {i : Nat} (hi : i < ll.length) : (ll.take (i + 1)).flatten = (ll.take i).flatten ++ ll[i]'hi := by
  rw [take_one hi, List.flatten_append]
  simp

/-! slices.Concat[[]impl.Thing,impl.Thing] -/
noncomputable def a_slices_Concat__implThing_vz : Nat → Option Ann := fun n => bif Nat.beq n 3 then some ⟨[0,3,9,10,11],0,false⟩ else bif Nat.beq n 11 then some ⟨[6,25,26,27],0,true⟩ else none
noncomputable def c_slices_Concat__implThing_vz : Ctx := mkC Try.prog tyT [(38, s_slices_Grow__implThing_vz)] [] [] 36 a_slices_Concat__implThing_vz 0
noncomputable def fr_slices_Concat__implThing_vz_3 (ll : LLD) (z n i : Int) : Fr := [(0, .vec (.slice tT) ll), (3, .int .i64 z), (9, .vec (.slice tT) ll), (10, .int .i64 n), (11, .int .i64 i)]
theorem r_slices_Concat__implThing_vz_3 (ll : LLD) (z n i : Int) (Kn : Fr → Heap → Prop) (K : V → Heap → Prop) : round c_slices_Concat__implThing_vz ⟨[0,3,9,10,11],0,false⟩ (lb c_slices_Concat__implThing_vz 3 Try.f21) (fr_slices_Concat__implThing_vz_3 ll z n i) [] Kn (lk c_slices_Concat__implThing_vz 3 Try.f21 [] K) =
  cond (decide (i < n))
    (cond (decide (0 ≤ i))
      ((match ll[Int.toNat i]? with
        | some y0 => cond (decide (IntKind.wrap IntKind.i64 (z + (↑(List.length y0) : Int)) < 0))
          (False)
          (Kn [(0, (.vec (.slice tT) (ll))), (3, (.int .i64 (IntKind.wrap IntKind.i64 (z + (↑(List.length y0) : Int))))), (9, (.vec (.slice tT) (ll))), (10, (.int .i64 (n))), (11, (.int .i64 (IntKind.wrap IntKind.i64 (i + 1))))] [])
        | none => False))
      (False))
    (cond (z == 0)
      (LoopE c_slices_Concat__implThing_vz ⟨[6, 25, 26, 27], 0, true⟩ (lb c_slices_Concat__implThing_vz 11 Try.f21) [(6, .nils), (25, (.vec (.slice tT) (ll))), (26, (.int .i64 ((↑(List.length ll) : Int)))), (27, (.int .i64 0))] [] (lk c_slices_Concat__implThing_vz 11 Try.f21 [] K))
      (False)) := by kernel_rfl
noncomputable def fr_slices_Concat__implThing_vz_11 (ll : LLD) (out : List ThingD) (n i m : Int) : Fr := [(6, (slotM m)), (25, .vec (.slice tT) ll), (26, .int .i64 n), (27, .int .i64 i)]
noncomputable def hp_slices_Concat__implThing_vz_11 (ll : LLD) (out : List ThingD) (n i m : Int) : Heap := (match m with | 0 => [] | _ => [.sl 0 tT out])
theorem r_slices_Concat__implThing_vz_11_0 (ll : LLD) (out : List ThingD) (n i : Int) (Kn : Fr → Heap → Prop) (K : V → Heap → Prop) : round c_slices_Concat__implThing_vz ⟨[6,25,26,27],0,true⟩ (lb c_slices_Concat__implThing_vz 11 Try.f21) (fr_slices_Concat__implThing_vz_11 ll out n i (0 : Int)) (hp_slices_Concat__implThing_vz_11 ll out n i (0 : Int)) Kn (lk c_slices_Concat__implThing_vz 11 Try.f21 [] K) =
  cond (decide (i < n))
    (cond (decide (0 ≤ i))
      ((match ll[Int.toNat i]? with
        | some y0 => cond (decide ((0 + List.length y0) * 64 ≤ 140737488355328))
          (Kn [(6, (.obj 0 0)), (25, (.vec (.slice tT) (ll))), (26, (.int .i64 (n))), (27, (.int .i64 (IntKind.wrap IntKind.i64 (i + 1))))] [(.sl 0 tT (y0))])
          (False)
        | none => False))
      (False))
    (K .nils []) := by kernel_rfl
theorem r_slices_Concat__implThing_vz_11_1 (ll : LLD) (out : List ThingD) (n i : Int) (Kn : Fr → Heap → Prop) (K : V → Heap → Prop) : round c_slices_Concat__implThing_vz ⟨[6,25,26,27],0,true⟩ (lb c_slices_Concat__implThing_vz 11 Try.f21) (fr_slices_Concat__implThing_vz_11 ll out n i (1 : Int)) (hp_slices_Concat__implThing_vz_11 ll out n i (1 : Int)) Kn (lk c_slices_Concat__implThing_vz 11 Try.f21 [] K) =
  cond (decide (i < n))
    (cond (decide (0 ≤ i))
      ((match ll[Int.toNat i]? with
        | some y0 => cond (decide ((List.length out + List.length y0) * 64 ≤ 140737488355328))
          (Kn [(6, (.obj 0 0)), (25, (.vec (.slice tT) (ll))), (26, (.int .i64 (n))), (27, (.int .i64 (IntKind.wrap IntKind.i64 (i + 1))))] [(.sl 0 tT (out ++ y0))])
          (False)
        | none => False))
      (False))
    (K (.vec tT (out)) []) := by kernel_rfl
theorem w_slices_Concat__implThing_vz (ll : LLD) (K : V → Heap → Prop) : wpFn c_slices_Concat__implThing_vz Try.f21 (encAs [.cell (.slice (.slice tT))] (ll, ())) [] K =
  LoopE c_slices_Concat__implThing_vz ⟨[0, 3, 9, 10, 11], 0, false⟩ (lb c_slices_Concat__implThing_vz 3 Try.f21) [(0, (.vec (.slice tT) (ll))), (3, (.int .i64 0)), (9, (.vec (.slice tT) (ll))), (10, (.int .i64 ((↑(List.length ll) : Int)))), (11, (.int .i64 0))] [] (lk c_slices_Concat__implThing_vz 3 Try.f21 [] K) := by kernel_rfl
noncomputable def s_slices_Concat__implThing_vz : Sm := semG [.cell (.slice (.slice tT))] (fun x => match x with | (ll, _) => Nat.beq (lenL ll) 0 && !ll.isEmpty) fun x => match x with | (ll, _) => .vec tT ll.flatten
theorem ok_slices_Concat__implThing_vz : FnOk Try.prog 21 s_slices_Concat__implThing_vz := fnOk_typedG (fnOk_runC (C := c_slices_Concat__implThing_vz) rfl mixed (.cons ok_slices_Grow__implThing_vz .nil) .nil .nil Try.func21 (by kernel_rfl)) fun (x : ((LLD) × Unit)) wf hg K h => by
  obtain ⟨ll, ⟨⟩⟩ := x
  replace hg : (Nat.beq (lenL ll) 0 && !ll.isEmpty) = true := hg
  replace h : K (.vec tT ll.flatten) [] := h
  rw [w_slices_Concat__implThing_vz ll K]
  obtain ⟨⟨wl, _⟩, _⟩ := wf
  have wl : ll.length ≤ 9223372036854775807 := wl
  simp only [Bool.and_eq_true] at hg
  have g1 : lenL ll = 0 := beq_true hg.1
  have g2 : 0 < ll.length := by cases ll with | nil => simp at hg | cons _ _ => simp
  have hfl : ll.flatten = [] := List.eq_nil_of_length_eq_zero (by rw [lenL_flat, g1])
  rw [hfl] at h
  refine loop_run (σ := Nat × Int) (fun q => fr_slices_Concat__implThing_vz_3 ll q.2 ll.length q.1) (fun _ => []) (fun q => q.1 ≤ ll.length ∧ q.2 = (lenL (ll.take q.1) : Int)) (fun q => ll.length - q.1) ?_ (0, 0) ⟨Nat.zero_le _, rfl⟩
  rintro ⟨i, z⟩ ⟨hi, hz⟩ Kn hk
  simp only at hi hz hk ⊢
  rw [r_slices_Concat__implThing_vz_3 ll z ll.length i Kn K]
  by_cases hlt : i < ll.length
  · have e1 : lenL (ll.take (i + 1)) = lenL (ll.take i) + (ll[i]'hlt).length := sumW_take List.length hlt
    have e2 : lenL (ll.take (i + 1)) ≤ lenL ll := sumW_le List.length ll (i + 1)
    have ew : IntKind.i64.wrap (z + ((ll[i]'hlt).length : Int)) = (lenL (ll.take (i + 1)) : Int) := by rw [i64_of (by omega) (by omega)]; omega
    simp only [d_lt hlt, d_0, cond_true, Int.toNat_natCast, get_lt hlt, ew, d_f (show ¬ ((lenL (ll.take (i + 1)) : Nat) : Int) < 0 by omega), cond_false]
    rw [i64_of (show -9223372036854775808 ≤ (i : Int) + 1 by omega) (by omega)]
    exact hk (i + 1, (lenL (ll.take (i + 1)) : Int)) ⟨hlt, rfl⟩ (by simp only; omega)
  · have : i = ll.length := by omega
    subst this
    rw [List.take_length] at hz
    simp only [d_nlt hlt, cond_false]
    rw [hz, g1, show ((((0 : Nat) : Int)) == 0) = true from rfl, cond_true]
    refine loop_run (σ := Nat) (fun j => match j with | 0 => fr_slices_Concat__implThing_vz_11 ll [] ll.length 0 0 | j + 1 => fr_slices_Concat__implThing_vz_11 ll [] ll.length ((j + 1 : Nat) : Int) 1) (fun j => match j with | 0 => hp_slices_Concat__implThing_vz_11 ll [] ll.length 0 0 | j + 1 => hp_slices_Concat__implThing_vz_11 ll [] ll.length 0 1) (fun j => j ≤ ll.length) (fun j => ll.length - j) ?_ 0 (Nat.zero_le _)
    intro j hj Kn hk
    have hnil : ∀ (hl : j < ll.length), ll[j]'hl = [] := fun hl => by
      have e1 : lenL (ll.take (j + 1)) = lenL (ll.take j) + (ll[j]'hl).length := sumW_take List.length hl
      have e2 : lenL (ll.take (j + 1)) ≤ lenL ll := sumW_le List.length ll (j + 1)
      exact List.eq_nil_of_length_eq_zero (by omega)
    cases j with
    | zero =>
      refine Eq.mpr (r_slices_Concat__implThing_vz_11_0 ll [] ll.length ((0 : Nat) : Int) Kn K) ?_
      simp only [d_lt g2, d_0, cond_true, Int.toNat_natCast, get_lt g2, hnil g2, List.length_nil]
      rw [i64_of (show -9223372036854775808 ≤ ((0 : Nat) : Int) + 1 by omega) (by omega)]
      exact hk 1 g2 (by omega)
    | succ j =>
      refine Eq.mpr (r_slices_Concat__implThing_vz_11_1 ll [] ll.length ((j + 1 : Nat) : Int) Kn K) ?_
      by_cases hlt : j + 1 < ll.length
      · simp only [d_lt hlt, d_0, cond_true, Int.toNat_natCast, get_lt hlt, hnil hlt, List.length_nil, List.append_nil]
        rw [i64_of (show -9223372036854775808 ≤ ((j + 1 : Nat) : Int) + 1 by omega) (by omega)]
        exact hk (j + 1 + 1) hlt (by omega)
      · simp only [d_nlt hlt, cond_false]
        exact h

/-! slices.Concat[[]impl.Thing,impl.Thing] -/
noncomputable def a_slices_Concat__implThing_vp : Nat → Option Ann := fun n => bif Nat.beq n 3 then some ⟨[0,3,9,10,11],0,false⟩ else bif Nat.beq n 11 then some ⟨[6,25,26,27],0,true⟩ else none
noncomputable def c_slices_Concat__implThing_vp : Ctx := mkC Try.prog tyT [] [] [(38, s_slices_Grow__implThing_vp)] 36 a_slices_Concat__implThing_vp 0
noncomputable def fr_slices_Concat__implThing_vp_3 (ll : LLD) (z n i : Int) : Fr := [(0, .vec (.slice tT) ll), (3, .int .i64 z), (9, .vec (.slice tT) ll), (10, .int .i64 n), (11, .int .i64 i)]
theorem r_slices_Concat__implThing_vp_3 (ll : LLD) (z n i : Int) (Kn : Fr → Heap → Prop) (K : V → Heap → Prop) : round c_slices_Concat__implThing_vp ⟨[0,3,9,10,11],0,false⟩ (lb c_slices_Concat__implThing_vp 3 Try.f21) (fr_slices_Concat__implThing_vp_3 ll z n i) [] Kn (lk c_slices_Concat__implThing_vp 3 Try.f21 [] K) =
  cond (decide (i < n))
    (cond (decide (0 ≤ i))
      ((match ll[Int.toNat i]? with
        | some y0 => cond (decide (IntKind.wrap IntKind.i64 (z + (↑(List.length y0) : Int)) < 0))
          (False)
          (Kn [(0, (.vec (.slice tT) (ll))), (3, (.int .i64 (IntKind.wrap IntKind.i64 (z + (↑(List.length y0) : Int))))), (9, (.vec (.slice tT) (ll))), (10, (.int .i64 (n))), (11, (.int .i64 (IntKind.wrap IntKind.i64 (i + 1))))] [])
        | none => False))
      (False))
    (cond (decide (0 < z) && decide (z * 64 ≤ 140737488355328))
      (LoopE c_slices_Concat__implThing_vp ⟨[6, 25, 26, 27], 0, true⟩ (lb c_slices_Concat__implThing_vp 11 Try.f21) [(6, (.obj 0 0)), (25, (.vec (.slice tT) (ll))), (26, (.int .i64 ((↑(List.length ll) : Int)))), (27, (.int .i64 0))] [(.sl 0 tT ([]))] (lk c_slices_Concat__implThing_vp 11 Try.f21 [] K))
      (False)) := by kernel_rfl
noncomputable def fr_slices_Concat__implThing_vp_11 (ll : LLD) (out : List ThingD) (n i : Int) : Fr := [(6, .obj 0 0), (25, .vec (.slice tT) ll), (26, .int .i64 n), (27, .int .i64 i)]
noncomputable def hp_slices_Concat__implThing_vp_11 (ll : LLD) (out : List ThingD) (n i : Int) : Heap := [.sl 0 tT out]
theorem r_slices_Concat__implThing_vp_11 (ll : LLD) (out : List ThingD) (n i : Int) (Kn : Fr → Heap → Prop) (K : V → Heap → Prop) : round c_slices_Concat__implThing_vp ⟨[6,25,26,27],0,true⟩ (lb c_slices_Concat__implThing_vp 11 Try.f21) (fr_slices_Concat__implThing_vp_11 ll out n i) (hp_slices_Concat__implThing_vp_11 ll out n i) Kn (lk c_slices_Concat__implThing_vp 11 Try.f21 [] K) =
  cond (decide (i < n))
    (cond (decide (0 ≤ i))
      ((match ll[Int.toNat i]? with
        | some y0 => cond (decide ((List.length out + List.length y0) * 64 ≤ 140737488355328))
          (Kn [(6, (.obj 0 0)), (25, (.vec (.slice tT) (ll))), (26, (.int .i64 (n))), (27, (.int .i64 (IntKind.wrap IntKind.i64 (i + 1))))] [(.sl 0 tT (out ++ y0))])
          (False)
        | none => False))
      (False))
    (K (.vec tT (out)) []) := by kernel_rfl
theorem w_slices_Concat__implThing_vp (ll : LLD) (K : V → Heap → Prop) : wpFn c_slices_Concat__implThing_vp Try.f21 (encAs [.cell (.slice (.slice tT))] (ll, ())) [] K =
  LoopE c_slices_Concat__implThing_vp ⟨[0, 3, 9, 10, 11], 0, false⟩ (lb c_slices_Concat__implThing_vp 3 Try.f21) [(0, (.vec (.slice tT) (ll))), (3, (.int .i64 0)), (9, (.vec (.slice tT) (ll))), (10, (.int .i64 ((↑(List.length ll) : Int)))), (11, (.int .i64 0))] [] (lk c_slices_Concat__implThing_vp 3 Try.f21 [] K) := by kernel_rfl
noncomputable def s_slices_Concat__implThing_vp : Sm := semG [.cell (.slice (.slice tT))] (fun x => match x with | (ll, _) => decide (0 < lenL ll) && decide (lenL ll ≤ 1048576)) fun x => match x with | (ll, _) => .vec tT ll.flatten
theorem ok_slices_Concat__implThing_vp : FnOk Try.prog 21 s_slices_Concat__implThing_vp := fnOk_typedG (fnOk_runC (C := c_slices_Concat__implThing_vp) rfl mixed .nil .nil (.cons ok_slices_Grow__implThing_vp .nil) Try.func21 (by kernel_rfl)) fun (x : ((LLD) × Unit)) wf hg K h => by
  obtain ⟨ll, ⟨⟩⟩ := x
  replace hg : (decide (0 < lenL ll) && decide (lenL ll ≤ 1048576)) = true := hg
  replace h : K (.vec tT ll.flatten) [] := h
  rw [w_slices_Concat__implThing_vp ll K]
  obtain ⟨⟨wl, _⟩, _⟩ := wf
  have wl : ll.length ≤ 9223372036854775807 := wl
  simp only [Bool.and_eq_true, decide_eq_true_eq] at hg
  obtain ⟨g1, g2⟩ := hg
  refine loop_run (σ := Nat × Int) (fun q => fr_slices_Concat__implThing_vp_3 ll q.2 ll.length q.1) (fun _ => []) (fun q => q.1 ≤ ll.length ∧ q.2 = (lenL (ll.take q.1) : Int)) (fun q => ll.length - q.1) ?_ (0, 0) ⟨Nat.zero_le _, rfl⟩
  rintro ⟨i, z⟩ ⟨hi, hz⟩ Kn hk
  simp only at hi hz hk ⊢
  rw [r_slices_Concat__implThing_vp_3 ll z ll.length i Kn K]
  by_cases hlt : i < ll.length
  · have e1 : lenL (ll.take (i + 1)) = lenL (ll.take i) + (ll[i]'hlt).length := sumW_take List.length hlt
    have e2 : lenL (ll.take (i + 1)) ≤ lenL ll := sumW_le List.length ll (i + 1)
    have ew : IntKind.i64.wrap (z + ((ll[i]'hlt).length : Int)) = (lenL (ll.take (i + 1)) : Int) := by rw [i64_of (by omega) (by omega)]; omega
    simp only [d_lt hlt, d_0, cond_true, Int.toNat_natCast, get_lt hlt, ew, d_f (show ¬ ((lenL (ll.take (i + 1)) : Nat) : Int) < 0 by omega), cond_false]
    rw [i64_of (show -9223372036854775808 ≤ (i : Int) + 1 by omega) (by omega)]
    exact hk (i + 1, (lenL (ll.take (i + 1)) : Int)) ⟨hlt, rfl⟩ (by simp only; omega)
  · have : i = ll.length := by omega
    subst this
    rw [List.take_length] at hz
    simp only [d_nlt hlt, cond_false]
    rw [hz]
    refine cond_intro (by simp only [Bool.and_eq_true, decide_eq_true_eq]; omega) ?_
    refine loop_run (σ := Nat) (fun j => fr_slices_Concat__implThing_vp_11 ll [] ll.length j) (fun j => hp_slices_Concat__implThing_vp_11 ll (ll.take j).flatten ll.length j) (fun j => j ≤ ll.length) (fun j => ll.length - j) ?_ 0 (Nat.zero_le _)
    intro j hj Kn hk
    rw [show fr_slices_Concat__implThing_vp_11 ll [] ll.length j = fr_slices_Concat__implThing_vp_11 ll (ll.take j).flatten ll.length j from rfl, r_slices_Concat__implThing_vp_11 ll (ll.take j).flatten ll.length j Kn K]
    by_cases hlt : j < ll.length
    · have e1 : lenL (ll.take (j + 1)) = lenL (ll.take j) + (ll[j]'hlt).length := sumW_take List.length hlt
      have e2 : lenL (ll.take (j + 1)) ≤ lenL ll := sumW_le List.length ll (j + 1)
      have go := hk (j + 1) hlt (by omega)
      rw [flat_take hlt] at go
      simp only [d_lt hlt, d_0, cond_true, Int.toNat_natCast, get_lt hlt, lenL_flat, d_t (show (lenL (ll.take j) + (ll[j]'hlt).length) * 64 ≤ 140737488355328 by omega)]
      rw [i64_of (show -9223372036854775808 ≤ (j : Int) + 1 by omega) (by omega)]
      exact go
    · have : j = ll.length := by omega
      subst this
      simp only [d_nlt hlt, cond_false]
      rw [List.take_length]
      exact h

/-- Two contracts of one function. -/
theorem fnOk_or {P : Program} {k : FuncId} {l : List AT} {g1 g2 g : ADen l → Bool} {f : ADen l → V} (h1 : FnOk P k (semG l g1 f)) (h2 : FnOk P k (semG l g2 f)) (hg : ∀ x, g x = true → g1 x = true ∨ g2 x = true) : FnOk P k (semG l g f) := by
  intro args K hk
  simp only [semG] at hk
  split at hk
  · rename_i x hd
    cases hgx : g x with
    | false => simp only [hgx, cond_false] at hk
    | true =>
      simp only [hgx, cond_true] at hk
      rcases hg x hgx with e | e
      · obtain ⟨v, q1, q2, q3⟩ := h1 args K (by simp only [semG, hd, e, cond_true]; exact hk)
        refine ⟨v, q1, fun K' h' => ?_, q3⟩
        have := q2 K' h'
        simp only [semG, hd, e, hgx, cond_true] at this ⊢
        exact this
      · obtain ⟨v, q1, q2, q3⟩ := h2 args K (by simp only [semG, hd, e, cond_true]; exact hk)
        refine ⟨v, q1, fun K' h' => ?_, q3⟩
        have := q2 K' h'
        simp only [semG, hd, e, hgx, cond_true] at this ⊢
        exact this
  · exact hk.elim
noncomputable def s_slices_Concat__implThing : Sm := semG [.cell (.slice (.slice tT))] (fun x => match x with | (ll, _) => !ll.isEmpty && decide (lenL ll ≤ 1048576)) fun x => match x with | (ll, _) => .vec tT ll.flatten
theorem ok_slices_Concat__implThing : FnOk Try.prog 21 s_slices_Concat__implThing := fnOk_or ok_slices_Concat__implThing_vz ok_slices_Concat__implThing_vp fun x hx => by
  obtain ⟨ll, ⟨⟩⟩ := x
  simp only [Bool.and_eq_true, decide_eq_true_eq] at hx ⊢
  by_cases h0 : lenL ll = 0
  · exact .inl ⟨by rw [h0]; rfl, hx.1⟩
  · exact .inr ⟨by omega, hx.2⟩


/-! impl.DropThing -/
noncomputable def c_impl_DropThing_vg : Ctx := mkC Try.prog tyT [(8, s_impl_FindThing)] [(21, s_slices_Concat__implThing)] [(17, s_impl_sceneOf)] 31 (fun _ => none) 0
noncomputable def gp_impl_DropThing_vg : List (List (Option Ty)) := List.map giveR [.agg [.deep tT], .cell (.imm .bool)]
theorem w_impl_DropThing_vg (ts : List ThingD) (nm : Str) (K : V → Heap → Prop) : wpFnG gp_impl_DropThing_vg c_impl_DropThing_vg Try.f9 (encAs [.agg (.slice tT), .cell .str] (ts, nm, ())) [] K =
  cond (!(sceneB ts && findB ts nm))
    (K (.tuple [(.agg [(.dob 0 0)]), (.bool false)]) [(.dp 0 0 tT ([]))])
    (cond (decide (0 ≤ 0) && (decide (0 ≤ bif sceneB ts && findB ts nm then (↑(findN ts nm) : Int) else 0) && decide ((bif sceneB ts && findB ts nm then (↑(findN ts nm) : Int) else 0) ≤ (↑(List.length ts) : Int))))
      (cond (decide (0 ≤ IntKind.wrap IntKind.i64 ((bif sceneB ts && findB ts nm then (↑(findN ts nm) : Int) else 0) + 1)) && (decide (IntKind.wrap IntKind.i64 ((bif sceneB ts && findB ts nm then (↑(findN ts nm) : Int) else 0) + 1) ≤ (↑(List.length ts) : Int)) && decide ((↑(List.length ts) : Int) ≤ (↑(List.length ts) : Int))))
        (cond (!List.isEmpty [List.drop 0 (List.take (Int.toNat (bif sceneB ts && findB ts nm then (↑(findN ts nm) : Int) else 0)) ts), List.drop (Int.toNat (IntKind.wrap IntKind.i64 ((bif sceneB ts && findB ts nm then (↑(findN ts nm) : Int) else 0) + 1))) (List.take (Int.toNat (↑(List.length ts) : Int)) ts)] && decide (lenL [List.drop 0 (List.take (Int.toNat (bif sceneB ts && findB ts nm then (↑(findN ts nm) : Int) else 0)) ts), List.drop (Int.toNat (IntKind.wrap IntKind.i64 ((bif sceneB ts && findB ts nm then (↑(findN ts nm) : Int) else 0) + 1))) (List.take (Int.toNat (↑(List.length ts) : Int)) ts)] ≤ 1048576))
          (cond (fitC (List.flatten [List.drop 0 (List.take (Int.toNat (bif sceneB ts && findB ts nm then (↑(findN ts nm) : Int) else 0)) ts), List.drop (Int.toNat (IntKind.wrap IntKind.i64 ((bif sceneB ts && findB ts nm then (↑(findN ts nm) : Int) else 0) + 1))) (List.take (Int.toNat (↑(List.length ts) : Int)) ts)]))
            (K (.tuple [(.agg [(.dob 0 0)]), (.bool (sceneB (List.flatten [List.drop 0 (List.take (Int.toNat (bif sceneB ts && findB ts nm then (↑(findN ts nm) : Int) else 0)) ts), List.drop (Int.toNat (IntKind.wrap IntKind.i64 ((bif sceneB ts && findB ts nm then (↑(findN ts nm) : Int) else 0) + 1))) (List.take (Int.toNat (↑(List.length ts) : Int)) ts)])))]) [(.dp 0 0 tT (bif sceneB (List.flatten [List.drop 0 (List.take (Int.toNat (bif sceneB ts && findB ts nm then (↑(findN ts nm) : Int) else 0)) ts), List.drop (Int.toNat (IntKind.wrap IntKind.i64 ((bif sceneB ts && findB ts nm then (↑(findN ts nm) : Int) else 0) + 1))) (List.take (Int.toNat (↑(List.length ts) : Int)) ts)]) then List.flatten [List.drop 0 (List.take (Int.toNat (bif sceneB ts && findB ts nm then (↑(findN ts nm) : Int) else 0)) ts), List.drop (Int.toNat (IntKind.wrap IntKind.i64 ((bif sceneB ts && findB ts nm then (↑(findN ts nm) : Int) else 0) + 1))) (List.take (Int.toNat (↑(List.length ts) : Int)) ts)] else []))])
            (False))
          (False))
        (False))
      (False)) := by kernel_rfl
noncomputable def s_impl_DropThing_vg : Sm := semV [.agg (.slice tT), .cell .str] [.agg [.deep tT], .cell (.imm .bool)] (fun x => match x with | (ts, nm, _) => fitC ts) fun x => match x with | (ts, nm, _) => ((dropR ts nm, ()), dropOk ts nm, ())
theorem ok_impl_DropThing_vg : FnOkL Try.prog 9 s_impl_DropThing_vg := fnOkO_give (fnOkO_runG (C := c_impl_DropThing_vg) gp_impl_DropThing_vg rfl mixed (.cons ok_impl_FindThing .nil) (.cons ok_slices_Concat__implThing .nil) (.cons ok_impl_sceneOf .nil) Try.func9 (by kernel_rfl)) rfl fun (x : ((List ThingD) × (Str) × Unit)) wf hg K h => by
  obtain ⟨ts, nm, ⟨⟩⟩ := x
  replace hg : (fitC ts) = true := hg
  replace h : K (tup (valRs [.agg [.deep tT], .cell (.imm .bool)] (((dropR ts nm, ()), dropOk ts nm, ())) 0)) (thRs [.agg [.deep tT], .cell (.imm .bool)] (((dropR ts nm, ()), dropOk ts nm, ()))) := h
  rw [w_impl_DropThing_vg ts nm K]
  unfold dropR dropOk at h
  cases ho : (sceneB ts && findB ts nm) with
  | false =>
    simp only [ho, cond_false, Bool.not_false, cond_true] at h ⊢
    exact h
  | true =>
    have ho2 := ho
    simp only [Bool.and_eq_true] at ho2
    obtain ⟨hs, hb⟩ := ho2
    obtain ⟨_, hlt⟩ := (find_spec hs nm).1 hb
    have hcat := drop_eq hs hb
    have g1 : ts.length ≤ 1048576 := by unfold fitC at hg; simp only [Bool.and_eq_true, decide_eq_true_eq] at hg; exact hg.1
    have hdl : (dropL ts nm).length ≤ ts.length := List.length_filter_le _ _
    have hsd := sceneB_drop nm hs
    have hfd : fitC (dropL ts nm) = true := fitC_part hg hdl fun t ht => (List.mem_filter.1 ht).1
    generalize findN ts nm = n at *
    have hw : IntKind.i64.wrap ((n : Int) + 1) = ((n + 1 : Nat) : Int) := by rw [i64_of (by omega) (by omega)]; omega
    simp only [ho, cond_true, Bool.not_true, cond_false, hw, Int.toNat_natCast, List.drop_zero, List.take_length] at h ⊢
    have hfl : [ts.take n, ts.drop (n + 1)].flatten = dropL ts nm := by simp only [List.flatten_cons, List.flatten_nil, List.append_nil]; exact hcat
    have hln : lenL [ts.take n, ts.drop (n + 1)] = (dropL ts nm).length := by rw [← hfl, lenL_flat]
    rw [hfl, hln, hfd, hsd]
    refine cond_intro (by rw [Bool.and_eq_true, Bool.and_eq_true]; exact ⟨decide_eq_true (by omega), decide_eq_true (by omega), decide_eq_true (by omega)⟩) ?_
    refine cond_intro (by rw [Bool.and_eq_true, Bool.and_eq_true]; exact ⟨decide_eq_true (by omega), decide_eq_true (by omega), decide_eq_true (by omega)⟩) ?_
    refine cond_intro (by rw [Bool.and_eq_true]; exact ⟨rfl, decide_eq_true (by omega)⟩) ?_
    exact h
noncomputable def s_impl_DropThing_vg_vv : Sm := semG [.agg (.slice tT), .cell .str] (fun x => match x with | (ts, nm, _) => fitC ts) fun x => tup (vecRs [.agg [.deep tT], .cell (.imm .bool)] (match x with | (ts, nm, _) => ((dropR ts nm, ()), dropOk ts nm, ())))
theorem ok_impl_DropThing_vg_vv : FnOk Try.prog 9 s_impl_DropThing_vg_vv := fnOk_of_give ok_impl_DropThing_vg.1

end Go.Proofs.Ytmkomfhnomnbiaa
