/- Bytes of numbers and shapes. -/
import Derived.Test.YtbbkhjeohfdcaaaShapes
set_option linter.unusedVariables false
set_option linter.unusedSimpArgs false
set_option maxRecDepth 100000
namespace Go.Proofs.Ytbbkhjeohfdcaaa
open Go.Ev

def byteV (n : Int) (i : Nat) : Int := (n / 256 ^ i) % 256
def wordL (n : Int) (k : Nat) : List Int := (List.range k).map (byteV n)
--B wordB Int → Nat → List UInt8
def wordB (n : Int) (k : Nat) : List UInt8 := toU8 (wordL n k)
theorem wordL_succ (n : Int) (k : Nat) : wordL n (k + 1) = wordL n k ++ [byteV n k] := by simp [wordL, List.range_succ]
theorem wordL_length (n : Int) (k : Nat) : (wordL n k).length = k := by simp [wordL]
theorem wordB_length (n : Int) (k : Nat) : (wordB n k).length = k := by simp [wordB, toU8, wordL]
theorem div_step (n : Int) (i : Nat) : (n / 256 ^ i).fdiv (2 ^ 8) = n / 256 ^ (i + 1) := by
  rw [show ((2 : Int) ^ 8) = 256 from rfl, Int.fdiv_eq_ediv_of_nonneg _ (by decide), Int.ediv_ediv_of_nonneg (Int.le_of_lt (Int.pow_pos (by decide))), Int.pow_succ]
theorem div_range {n : Int} (h1 : -9223372036854775808 ≤ n) (h2 : n ≤ 9223372036854775807) (i : Nat) : -9223372036854775808 ≤ n / 256 ^ i ∧ n / 256 ^ i ≤ 9223372036854775807 := by
  induction i with
  | zero => simp; omega
  | succ i ih =>
    rw [← div_step, show ((2 : Int) ^ 8) = 256 from rfl, Int.fdiv_eq_ediv_of_nonneg _ (by decide)]
    omega
theorem pow_256 (i : Nat) : ((2 : Int) ^ (8 * i)) = 256 ^ i := by rw [Int.pow_mul]; rfl
theorem u8_wrap (m : Int) : IntKind.u8.wrap m = m % 256 := rfl
theorem and255 (m : Int) : ((BitVec.toNat (BitVec.ofInt 64 m &&& BitVec.ofInt 64 255) : Nat) : Int) = m % 256 := by
  rw [BitVec.toNat_and, BitVec.toNat_ofInt, show BitVec.toNat (BitVec.ofInt 64 255) = 2 ^ 8 - 1 by decide, Nat.and_two_pow_sub_one_eq_mod]
  have : ((2 ^ 64 : Nat) : Int) = 18446744073709551616 := by decide
  rw [this]
  omega

--B floatsB List Nat → List UInt8
def floatsB (xs : List Nat) : List UInt8 := xs.flatMap fun x : Nat => wordB (x : Int) 4
theorem flat_len {α : Type} {f : α → List UInt8} {B : Nat} {xs : List α} (h : ∀ x ∈ xs, (f x).length ≤ B) : (xs.flatMap f).length ≤ B * xs.length := by
  induction xs with
  | nil => simp
  | cons x xs ih =>
    have := ih fun y hy => h y (by simp [hy])
    have := h x (by simp)
    rw [List.flatMap_cons, List.length_append, List.length_cons, Nat.mul_succ]
    omega
theorem flat_take {α : Type} (f : α → List UInt8) {xs : List α} {i : Nat} (hi : i < xs.length) : (xs.take (i + 1)).flatMap f = (xs.take i).flatMap f ++ f (xs[i]'hi) := by
  rw [take_one hi, List.flatMap_append, List.flatMap_singleton]
theorem floatsB_length (xs : List Nat) : (floatsB xs).length ≤ 4 * xs.length := flat_len (f := fun x : Nat => wordB (x : Int) 4) fun x _ => by rw [wordB_length]; exact Nat.le_refl _
--B nodeS NodeD → List UInt8
def nodeS (n : NodeD) : List UInt8 := ((wordB n.1 1 ++ wordB n.2.1 1) ++ wordB n.2.2.1 1) ++ floatsB n.2.2.2
--B shapeS List NodeD → List UInt8
def shapeS (ns : ShapeD) : List UInt8 := wordB ns.length 1 ++ ns.flatMap nodeS
theorem nodeS_length (n : NodeD) : (nodeS n).length ≤ 3 + 4 * n.2.2.2.length := by
  have := floatsB_length n.2.2.2
  simp only [nodeS, List.length_append, wordB_length]
  omega
def smallN (n : NodeD) : Bool := decide (n.2.2.2.length ≤ 4)
def smallS (ns : ShapeD) : Bool := decide (ns.length ≤ 16) && ns.all smallN
theorem valid_small {ns : ShapeD} (h : validS ns = true) : smallS ns = true := by
  unfold validS at h
  simp only [Bool.and_eq_true] at h
  have h1 := inR_iff.1 h.1
  unfold smallS
  simp only [Bool.and_eq_true, decide_eq_true_eq]
  refine ⟨by omega, List.all_eq_true.2 fun n hn => ?_⟩
  obtain ⟨i, hi, rfl⟩ := List.mem_iff_getElem.1 hn
  have := List.all_eq_true.1 h.2.1 i (by simpa using hi)
  rw [get_lt hi] at this
  unfold nodeB numsB at this
  simp only [Bool.and_eq_true] at this
  have hk : kindN (ns[i]'hi).1 ≤ 4 := by
    rcases kinds this.1.1 with e | e | e | e | e | e | e | e | e | e | e | e | e | e | e | e | e <;> rw [e] <;> decide
  have he := this.1.2.1
  unfold smallN
  have he : (((ns[i]'hi).2.2.2.length : Nat) : Int) = kindN (ns[i]'hi).1 := by simpa using he
  exact decide_eq_true (by omega)
theorem small_len {ns : ShapeD} (h : smallS ns = true) (i : Nat) : ((ns.take i).flatMap nodeS).length ≤ 304 := by
  unfold smallS at h
  simp only [Bool.and_eq_true, decide_eq_true_eq] at h
  have := flat_len (f := nodeS) (B := 19) (xs := ns.take i) fun n hn => by
    have h1 := nodeS_length n
    have h2 := List.all_eq_true.1 h.2 n (List.mem_of_mem_take hn)
    unfold smallN at h2
    simp only [decide_eq_true_eq] at h2
    omega
  rw [List.length_take] at this
  omega
theorem shapeS_length {ns : ShapeD} (h : smallS ns = true) : (shapeS ns).length ≤ 305 := by
  have := small_len h ns.length
  rw [List.take_length] at this
  simp only [shapeS, List.length_append, wordB_length]
  omega
theorem blt_big {m : Nat} (h : m ≤ 100000000) : Nat.blt m 9223372036854775808 = true := by rw [Nat.blt_eq]; omega

/-! impl.BitsOf -/
noncomputable def c_impl_BitsOf : Ctx := mkC Try.prog tyT [(59, s_impl_isNaN), (55, s_math_Float32bits)] [] [] 8 (fun _ => none) 0
theorem w_impl_BitsOf (x : Nat) (K : V → Heap → Prop) : wpFn c_impl_BitsOf Try.f51 (encAs [.cell tF] (x, ())) [] K =
  cond (nan FloatKind.f32 x)
    (K (.int .i64 2143289344) [])
    (cond (nan FloatKind.f32 x)
      (False)
      (K (.int .i64 (IntKind.wrap IntKind.i64 (↑x : Int))) [])) := by kernel_rfl
noncomputable def s_impl_BitsOf : Sm := semT [.cell tF] fun x => match x with | (x, _) => .int .i64 x
theorem ok_impl_BitsOf : FnOk Try.prog 51 s_impl_BitsOf := fnOk_typed (fnOk_runC (C := c_impl_BitsOf) rfl mixed (.cons ok_impl_isNaN (.cons ok_math_Float32bits .nil)) .nil .nil Try.func51 (by kernel_rfl)) fun (x : ((Nat) × Unit)) wf K h => by
  obtain ⟨x, ⟨⟩⟩ := x
  replace h : K (.int .i64 x) [] := h
  rw [w_impl_BitsOf x K]
  obtain ⟨⟨w1, w2⟩, _⟩ := wf
  have w1 : x < 4294967296 := w1
  cases e : nan .f32 x with
  | true => simp only [cond_true]; replace w2 : canon .f32 x = x := w2; rw [← w2, canon_nan e] at h; exact h
  | false =>
    simp only [cond_false]
    rw [i64_of (by omega) (by omega)]
    exact h

/-! impl.bytesOf -/
noncomputable def a_impl_bytesOf : Nat → Option Ann := fun n => bif Nat.beq n 3 then some ⟨[0,5,7,8],1,false⟩ else none
noncomputable def c_impl_bytesOf : Ctx := mkC Try.prog tyT [] [] [] 20 a_impl_bytesOf 0
noncomputable def fr_impl_bytesOf_3 (n k i : Int) (ds : List Int) : Fr := [(0, .int .i64 n), (5, .obj 0 0), (7, .int .i64 k), (8, .int .i64 i)]
noncomputable def hp_impl_bytesOf_3 (n k i : Int) (ds : List Int) : Heap := [.sl 0 (.int .u8) ds]
theorem r_impl_bytesOf_3 (n k i : Int) (ds : List Int) (Kn : Fr → Heap → Prop) (K : V → Heap → Prop) : round c_impl_bytesOf ⟨[0,5,7,8],1,false⟩ (lb c_impl_bytesOf 3 Try.f35) (fr_impl_bytesOf_3 n k i ds) (hp_impl_bytesOf_3 n k i ds) Kn (lk c_impl_bytesOf 3 Try.f35 [] K) =
  cond (decide (i < k))
    (cond (decide ((List.length ds + 1) * 1 ≤ 140737488355328))
      (Kn [(0, (.int .i64 (Int.fdiv n (2 ^ 8)))), (5, (.obj 0 0)), (7, (.int .i64 (k))), (8, (.int .i64 (IntKind.wrap IntKind.i64 (i + 1))))] [(.sl 0 (.int .u8) (ds ++ [IntKind.wrap IntKind.u8 n]))])
      (False))
    (K (.str (toU8 ds)) []) := by kernel_rfl
theorem w_impl_bytesOf (n k : Int) (K : V → Heap → Prop) : wpFn c_impl_bytesOf Try.f35 (encAs [.cell tI, .cell tI] (n, k, ())) [] K =
  LoopE c_impl_bytesOf ⟨[0, 5, 7, 8], 1, false⟩ (lb c_impl_bytesOf 3 Try.f35) [(0, (.int .i64 (n))), (5, (.obj 0 0)), (7, (.int .i64 (k))), (8, (.int .i64 0))] [(.sl 0 (.int .u8) ([]))] (lk c_impl_bytesOf 3 Try.f35 [] K) := by kernel_rfl
noncomputable def s_impl_bytesOf : Sm := semG [.cell tI, .cell tI] (fun x => match x with | (n, k, _) => decide (0 ≤ k) && decide (k ≤ 8)) fun x => match x with | (n, k, _) => .str (wordB n k.toNat)
theorem ok_impl_bytesOf : FnOk Try.prog 35 s_impl_bytesOf := fnOk_typedG (fnOk_runC (C := c_impl_bytesOf) rfl mixed .nil .nil .nil Try.func35 (by kernel_rfl)) fun (x : ((Int) × (Int) × Unit)) wf hg K h => by
  obtain ⟨n, k, ⟨⟩⟩ := x
  replace hg : (decide (0 ≤ k) && decide (k ≤ 8)) = true := hg
  replace h : K (.str (wordB n k.toNat)) [] := h
  rw [w_impl_bytesOf n k K]
  obtain ⟨⟨wn1, wn2⟩, _⟩ := wf
  have wn1 : -9223372036854775808 ≤ n := wn1
  have wn2 : n ≤ 9223372036854775807 := wn2
  simp only [Bool.and_eq_true, decide_eq_true_eq] at hg
  obtain ⟨m, rfl⟩ : ∃ m : Nat, k = m := ⟨k.toNat, by omega⟩
  rw [Int.toNat_natCast] at h
  suffices hh : LoopE c_impl_bytesOf { slots := [0, 5, 7, 8], keep := 1, gather := false } (lb c_impl_bytesOf 3 Try.f35) (fr_impl_bytesOf_3 (n / 256 ^ 0) m 0 []) (hp_impl_bytesOf_3 0 m 0 []) (lk c_impl_bytesOf 3 Try.f35 [] K) by
    rw [Int.pow_zero, Int.ediv_one] at hh
    exact hh
  refine loop_run (σ := Nat) (fun i => fr_impl_bytesOf_3 (n / 256 ^ i) m i []) (fun i => hp_impl_bytesOf_3 0 m 0 (wordL n i)) (fun i => i ≤ m) (fun i => m - i) ?_ 0 (Nat.zero_le _)
  intro i hi Kn hk
  rw [show fr_impl_bytesOf_3 (n / 256 ^ i) m i [] = fr_impl_bytesOf_3 (n / 256 ^ i) m i (wordL n i) from rfl, show hp_impl_bytesOf_3 0 m 0 (wordL n i) = hp_impl_bytesOf_3 (n / 256 ^ i) m i (wordL n i) from rfl, r_impl_bytesOf_3 (n / 256 ^ i) m i (wordL n i) Kn K]
  have hr := div_range wn1 wn2 i
  by_cases hlt : i < m
  · have hl := wordL_length n i
    simp only [d_lt hlt, cond_true, hl, d_t (show (i + 1) * 1 ≤ 140737488355328 by omega)]
    rw [div_step, i64_of (by omega) (by omega)]
    have := hk (i + 1) hlt (by omega)
    rw [show hp_impl_bytesOf_3 0 m 0 (wordL n (i + 1)) = [.sl 0 (.int .u8) (wordL n i ++ [byteV n i])] by rw [wordL_succ]; rfl] at this
    exact this
  · have : i = m := by omega
    subst this
    simp only [d_nlt hlt, cond_false]
    exact h

/-! spec.l10Word -/
noncomputable def a_spec_l10Word : Nat → Option Ann := fun n => bif Nat.beq n 3 then some ⟨[0,1,5,6],1,false⟩ else none
noncomputable def c_spec_l10Word : Ctx := mkC Try.prog tyT [] [] [] 25 a_spec_l10Word 0
noncomputable def fr_spec_l10Word_3 (n k i : Int) (ds : List Int) : Fr := [(0, .int .i64 n), (1, .int .i64 k), (5, .obj 0 0), (6, .int .i64 i)]
noncomputable def hp_spec_l10Word_3 (n k i : Int) (ds : List Int) : Heap := [.sl 0 (.int .u8) ds]
theorem r_spec_l10Word_3 (n k i : Int) (ds : List Int) (Kn : Fr → Heap → Prop) (K : V → Heap → Prop) : round c_spec_l10Word ⟨[0,1,5,6],1,false⟩ (lb c_spec_l10Word 3 Try.f24) (fr_spec_l10Word_3 n k i ds) (hp_spec_l10Word_3 n k i ds) Kn (lk c_spec_l10Word 3 Try.f24 [] K) =
  cond (decide (i < k))
    (cond (decide (IntKind.wrap IntKind.u64 (IntKind.wrap IntKind.i64 (8 * i)) < 0))
      (False)
      (cond (decide ((List.length ds + 1) * 1 ≤ 140737488355328))
        (Kn [(0, (.int .i64 (n))), (1, (.int .i64 (k))), (5, (.obj 0 0)), (6, (.int .i64 (IntKind.wrap IntKind.i64 (i + 1))))] [(.sl 0 (.int .u8) (ds ++ [IntKind.wrap IntKind.u8 (IntKind.wrap IntKind.i64 (↑(BitVec.toNat (BitVec.ofInt 64 (Int.fdiv n (2 ^ min (Int.toNat (IntKind.wrap IntKind.u64 (IntKind.wrap IntKind.i64 (8 * i)))) 64)) &&& BitVec.ofInt 64 255)) : Int))]))])
        (False)))
    (K (.str (toU8 ds)) []) := by kernel_rfl
theorem w_spec_l10Word (n k : Int) (K : V → Heap → Prop) : wpFn c_spec_l10Word Try.f24 (encAs [.cell tI, .cell tI] (n, k, ())) [] K =
  LoopE c_spec_l10Word ⟨[0, 1, 5, 6], 1, false⟩ (lb c_spec_l10Word 3 Try.f24) [(0, (.int .i64 (n))), (1, (.int .i64 (k))), (5, (.obj 0 0)), (6, (.int .i64 0))] [(.sl 0 (.int .u8) ([]))] (lk c_spec_l10Word 3 Try.f24 [] K) := by kernel_rfl
noncomputable def s_spec_l10Word : Sm := semG [.cell tI, .cell tI] (fun x => match x with | (n, k, _) => decide (0 ≤ k) && decide (k ≤ 8)) fun x => match x with | (n, k, _) => .str (wordB n k.toNat)
theorem ok_spec_l10Word : FnOk Try.prog 24 s_spec_l10Word := fnOk_typedG (fnOk_runC (C := c_spec_l10Word) rfl mixed .nil .nil .nil Try.func24 (by kernel_rfl)) fun (x : ((Int) × (Int) × Unit)) wf hg K h => by
  obtain ⟨n, k, ⟨⟩⟩ := x
  replace hg : (decide (0 ≤ k) && decide (k ≤ 8)) = true := hg
  replace h : K (.str (wordB n k.toNat)) [] := h
  rw [w_spec_l10Word n k K]
  obtain ⟨⟨wn1, wn2⟩, _⟩ := wf
  have wn1 : -9223372036854775808 ≤ n := wn1
  have wn2 : n ≤ 9223372036854775807 := wn2
  simp only [Bool.and_eq_true, decide_eq_true_eq] at hg
  obtain ⟨m, rfl⟩ : ∃ m : Nat, k = m := ⟨k.toNat, by omega⟩
  rw [Int.toNat_natCast] at h
  refine loop_run (σ := Nat) (fun i => fr_spec_l10Word_3 n m i []) (fun i => hp_spec_l10Word_3 n m 0 (wordL n i)) (fun i => i ≤ m) (fun i => m - i) ?_ 0 (Nat.zero_le _)
  intro i hi Kn hk
  rw [show fr_spec_l10Word_3 n m i [] = fr_spec_l10Word_3 n m i (wordL n i) from rfl, show hp_spec_l10Word_3 n m 0 (wordL n i) = hp_spec_l10Word_3 n m i (wordL n i) from rfl, r_spec_l10Word_3 n m i (wordL n i) Kn K]
  have hr := div_range wn1 wn2 i
  by_cases hlt : i < m
  · have hl := wordL_length n i
    simp only [d_lt hlt, cond_true, hl, d_t (show (i + 1) * 1 ≤ 140737488355328 by omega)]
    rw [i64_of (n := 8 * (i : Int)) (by omega) (by omega), show IntKind.u64.wrap (8 * (i : Int)) = 8 * (i : Int) from wrap_of (by have : IntKind.u64.min = 0 := rfl; omega) (by have : IntKind.u64.max = 18446744073709551615 := rfl; omega),
      d_f (show ¬ 8 * (i : Int) < 0 by omega), show min (8 * (i : Int)).toNat 64 = 8 * i by omega, and255, pow_256, Int.fdiv_eq_ediv_of_nonneg _ (Int.le_of_lt (Int.pow_pos (by decide))),
      i64_of (n := n / 256 ^ i % 256) (by omega) (by omega), i64_of (n := (i : Int) + 1) (by omega) (by omega), show IntKind.u8.wrap (n / 256 ^ i % 256) = byteV n i by unfold byteV; rw [u8_wrap]; omega]
    have := hk (i + 1) hlt (by omega)
    rw [show hp_spec_l10Word_3 n m 0 (wordL n (i + 1)) = [.sl 0 (.int .u8) (wordL n i ++ [byteV n i])] by rw [wordL_succ]; rfl] at this
    exact this
  · have : i = m := by omega
    subst this
    simp only [d_nlt hlt, cond_false]
    exact h

/-! impl.floats -/
noncomputable def a_impl_floats : Nat → Option Ann := fun n => bif Nat.beq n 3 then some ⟨[3,6,7,8],0,false⟩ else none
noncomputable def c_impl_floats : Ctx := mkC Try.prog tyT [(51, s_impl_BitsOf), (35, s_impl_bytesOf)] [] [] 19 a_impl_floats 0
noncomputable def fr_impl_floats_3 (out : List UInt8) (xs : List Nat) (n i : Int) : Fr := [(3, .str out), (6, .vec tF xs), (7, .int .i64 n), (8, .int .i64 i)]
theorem r_impl_floats_3 (out : List UInt8) (xs : List Nat) (n i : Int) (Kn : Fr → Heap → Prop) (K : V → Heap → Prop) : round c_impl_floats ⟨[3,6,7,8],0,false⟩ (lb c_impl_floats 3 Try.f36) (fr_impl_floats_3 out xs n i) [] Kn (lk c_impl_floats 3 Try.f36 [] K) =
  cond (decide (i < n))
    (cond (decide (0 ≤ i))
      ((match xs[Int.toNat i]? with
        | some y0 => cond (Nat.blt (List.length out + List.length (wordB (↑y0 : Int) 4)) 9223372036854775808)
          (Kn [(3, (.str (out ++ wordB (↑y0 : Int) 4))), (6, (.vec (.float .f32) (xs))), (7, (.int .i64 (n))), (8, (.int .i64 (IntKind.wrap IntKind.i64 (i + 1))))] [])
          (False)
        | none => False))
      (False))
    (K (.str (out)) []) := by kernel_rfl
theorem w_impl_floats (xs : List Nat) (K : V → Heap → Prop) : wpFn c_impl_floats Try.f36 (encAs [.cell (.slice tF)] (xs, ())) [] K =
  LoopE c_impl_floats ⟨[3, 6, 7, 8], 0, false⟩ (lb c_impl_floats 3 Try.f36) [(3, (.str (Array.toList (ByteArray.data { data := #[] })))), (6, (.vec (.float .f32) (xs))), (7, (.int .i64 ((↑(List.length xs) : Int)))), (8, (.int .i64 0))] [] (lk c_impl_floats 3 Try.f36 [] K) := by kernel_rfl
noncomputable def s_impl_floats : Sm := semG [.cell (.slice tF)] (fun x => match x with | (xs, _) => decide (xs.length ≤ 256)) fun x => match x with | (xs, _) => .str (floatsB xs)
theorem ok_impl_floats : FnOk Try.prog 36 s_impl_floats := fnOk_typedG (fnOk_runC (C := c_impl_floats) rfl mixed (.cons ok_impl_BitsOf (.cons ok_impl_bytesOf .nil)) .nil .nil Try.func36 (by kernel_rfl)) fun (x : ((List Nat) × Unit)) wf hg K h => by
  obtain ⟨xs, ⟨⟩⟩ := x
  replace hg : (decide (xs.length ≤ 256)) = true := hg
  replace h : K (.str (floatsB xs)) [] := h
  rw [w_impl_floats xs K]
  have hg := of_decide_eq_true hg
  refine loop_run (σ := Nat) (fun i => fr_impl_floats_3 (floatsB (xs.take i)) xs xs.length i) (fun _ => []) (fun i => i ≤ xs.length) (fun i => xs.length - i) ?_ 0 (Nat.zero_le _)
  intro i hi Kn hk
  rw [r_impl_floats_3 (floatsB (xs.take i)) xs xs.length i Kn K]
  by_cases hlt : i < xs.length
  · have hb := floatsB_length (xs.take i)
    rw [List.length_take] at hb
    simp only [d_lt hlt, d_0, cond_true, Int.toNat_natCast, get_lt hlt]
    rw [blt_big (by rw [wordB_length]; omega), i64_of (n := (i : Int) + 1) (by omega) (by omega)]
    have := hk (i + 1) hlt (by omega)
    rw [show floatsB (xs.take (i + 1)) = floatsB (xs.take i) ++ wordB ((xs[i]'hlt : Nat) : Int) 4 from flat_take (fun x : Nat => wordB (x : Int) 4) hlt] at this
    exact this
  · have : i = xs.length := by omega
    subst this
    simp only [d_nlt hlt, cond_false, List.take_length]
    exact h

/-! spec.l10Floats -/
noncomputable def a_spec_l10Floats : Nat → Option Ann := fun n => bif Nat.beq n 3 then some ⟨[0,3,4],0,false⟩ else none
noncomputable def c_spec_l10Floats : Ctx := mkC Try.prog tyT [(44, s_spec_l01Bits), (24, s_spec_l10Word)] [] [] 20 a_spec_l10Floats 0
noncomputable def fr_spec_l10Floats_3 (xs : List Nat) (out : List UInt8) (i : Int) : Fr := [(0, .vec tF xs), (3, .str out), (4, .int .i64 i)]
theorem r_spec_l10Floats_3 (xs : List Nat) (out : List UInt8) (i : Int) (Kn : Fr → Heap → Prop) (K : V → Heap → Prop) : round c_spec_l10Floats ⟨[0,3,4],0,false⟩ (lb c_spec_l10Floats 3 Try.f25) (fr_spec_l10Floats_3 xs out i) [] Kn (lk c_spec_l10Floats 3 Try.f25 [] K) =
  cond (decide (i < (↑(List.length xs) : Int)))
    (cond (decide (0 ≤ i))
      ((match xs[Int.toNat i]? with
        | some y0 => cond (Nat.blt (List.length out + List.length (wordB (↑y0 : Int) 4)) 9223372036854775808)
          (Kn [(0, (.vec (.float .f32) (xs))), (3, (.str (out ++ wordB (↑y0 : Int) 4))), (4, (.int .i64 (IntKind.wrap IntKind.i64 (i + 1))))] [])
          (False)
        | none => False))
      (False))
    (K (.str (out)) []) := by kernel_rfl
theorem w_spec_l10Floats (xs : List Nat) (K : V → Heap → Prop) : wpFn c_spec_l10Floats Try.f25 (encAs [.cell (.slice tF)] (xs, ())) [] K =
  LoopE c_spec_l10Floats ⟨[0, 3, 4], 0, false⟩ (lb c_spec_l10Floats 3 Try.f25) [(0, (.vec (.float .f32) (xs))), (3, (.str (Array.toList (ByteArray.data { data := #[] })))), (4, (.int .i64 0))] [] (lk c_spec_l10Floats 3 Try.f25 [] K) := by kernel_rfl
noncomputable def s_spec_l10Floats : Sm := semG [.cell (.slice tF)] (fun x => match x with | (xs, _) => decide (xs.length ≤ 256)) fun x => match x with | (xs, _) => .str (floatsB xs)
theorem ok_spec_l10Floats : FnOk Try.prog 25 s_spec_l10Floats := fnOk_typedG (fnOk_runC (C := c_spec_l10Floats) rfl mixed (.cons ok_spec_l01Bits (.cons ok_spec_l10Word .nil)) .nil .nil Try.func25 (by kernel_rfl)) fun (x : ((List Nat) × Unit)) wf hg K h => by
  obtain ⟨xs, ⟨⟩⟩ := x
  replace hg : (decide (xs.length ≤ 256)) = true := hg
  replace h : K (.str (floatsB xs)) [] := h
  rw [w_spec_l10Floats xs K]
  have hg := of_decide_eq_true hg
  refine loop_run (σ := Nat) (fun i => fr_spec_l10Floats_3 xs (floatsB (xs.take i)) i) (fun _ => []) (fun i => i ≤ xs.length) (fun i => xs.length - i) ?_ 0 (Nat.zero_le _)
  intro i hi Kn hk
  rw [r_spec_l10Floats_3 xs (floatsB (xs.take i)) i Kn K]
  by_cases hlt : i < xs.length
  · have hb := floatsB_length (xs.take i)
    rw [List.length_take] at hb
    simp only [d_lt hlt, d_0, cond_true, Int.toNat_natCast, get_lt hlt]
    rw [blt_big (by rw [wordB_length]; omega), i64_of (n := (i : Int) + 1) (by omega) (by omega)]
    have := hk (i + 1) hlt (by omega)
    rw [show floatsB (xs.take (i + 1)) = floatsB (xs.take i) ++ wordB ((xs[i]'hlt : Nat) : Int) 4 from flat_take (fun x : Nat => wordB (x : Int) 4) hlt] at this
    exact this
  · have : i = xs.length := by omega
    subst this
    simp only [d_nlt hlt, cond_false, List.take_length]
    exact h

/-! impl.shapeBytes -/
noncomputable def a_impl_shapeBytes : Nat → Option Ann := fun n => bif Nat.beq n 3 then some ⟨[3,11,12,13],0,false⟩ else none
noncomputable def c_impl_shapeBytes : Ctx := mkC Try.prog tyT [(35, s_impl_bytesOf), (36, s_impl_floats)] [] [] 36 a_impl_shapeBytes 0
noncomputable def fr_impl_shapeBytes_3 (out : List UInt8) (ns : ShapeD) (n i : Int) : Fr := [(3, .str out), (11, .vec tN ns), (12, .int .i64 n), (13, .int .i64 i)]
theorem r_impl_shapeBytes_3 (out : List UInt8) (ns : ShapeD) (n i : Int) (Kn : Fr → Heap → Prop) (K : V → Heap → Prop) : round c_impl_shapeBytes ⟨[3,11,12,13],0,false⟩ (lb c_impl_shapeBytes 3 Try.f14) (fr_impl_shapeBytes_3 out ns n i) [] Kn (lk c_impl_shapeBytes 3 Try.f14 [] K) =
  cond (decide (i < n))
    (cond (decide (0 ≤ i))
      ((match ns[Int.toNat i]? with
        | some y0 => cond (Nat.blt (List.length (wordB (Prod.fst y0) 1) + List.length (wordB (Prod.fst (Prod.snd y0)) 1)) 9223372036854775808)
          (cond (Nat.blt (List.length (wordB (Prod.fst y0) 1 ++ wordB (Prod.fst (Prod.snd y0)) 1) + List.length (wordB (Prod.fst (Prod.snd (Prod.snd y0))) 1)) 9223372036854775808)
            (cond (decide (List.length (Prod.snd (Prod.snd (Prod.snd y0))) ≤ 256))
              (cond (Nat.blt (List.length (wordB (Prod.fst y0) 1 ++ wordB (Prod.fst (Prod.snd y0)) 1 ++ wordB (Prod.fst (Prod.snd (Prod.snd y0))) 1) + List.length (floatsB (Prod.snd (Prod.snd (Prod.snd y0))))) 9223372036854775808)
                (cond (Nat.blt (List.length out + List.length (wordB (Prod.fst y0) 1 ++ wordB (Prod.fst (Prod.snd y0)) 1 ++ wordB (Prod.fst (Prod.snd (Prod.snd y0))) 1 ++ floatsB (Prod.snd (Prod.snd (Prod.snd y0))))) 9223372036854775808)
                  (Kn [(3, (.str (out ++ (wordB (Prod.fst y0) 1 ++ wordB (Prod.fst (Prod.snd y0)) 1 ++ wordB (Prod.fst (Prod.snd (Prod.snd y0))) 1 ++ floatsB (Prod.snd (Prod.snd (Prod.snd y0))))))), (11, (.vec (.pair (.int .i64) (.pair (.int .i64) (.pair (.int .i64) (.slice (.float .f32))))) (ns))), (12, (.int .i64 (n))), (13, (.int .i64 (IntKind.wrap IntKind.i64 (i + 1))))] [])
                  (False))
                (False))
              (False))
            (False))
          (False)
        | none => False))
      (False))
    (K (.str (out)) []) := by kernel_rfl
theorem w_impl_shapeBytes (ns : ShapeD) (K : V → Heap → Prop) : wpFn c_impl_shapeBytes Try.f14 (encAs [.agg tS] (ns, ())) [] K =
  LoopE c_impl_shapeBytes ⟨[3, 11, 12, 13], 0, false⟩ (lb c_impl_shapeBytes 3 Try.f14) [(3, (.str (wordB (↑(List.length ns) : Int) 1))), (11, (.vec (.pair (.int .i64) (.pair (.int .i64) (.pair (.int .i64) (.slice (.float .f32))))) (ns))), (12, (.int .i64 ((↑(List.length ns) : Int)))), (13, (.int .i64 0))] [] (lk c_impl_shapeBytes 3 Try.f14 [] K) := by kernel_rfl
noncomputable def s_impl_shapeBytes : Sm := semG [.agg tS] (fun x => match x with | (ns, _) => smallS ns) fun x => match x with | (ns, _) => .str (shapeS ns)
theorem ok_impl_shapeBytes : FnOk Try.prog 14 s_impl_shapeBytes := fnOk_typedG (fnOk_runC (C := c_impl_shapeBytes) rfl mixed (.cons ok_impl_bytesOf (.cons ok_impl_floats .nil)) .nil .nil Try.func14 (by kernel_rfl)) fun (x : ((ShapeD) × Unit)) wf hg K h => by
  obtain ⟨ns, ⟨⟩⟩ := x
  replace hg : (smallS ns) = true := hg
  replace h : K (.str (shapeS ns)) [] := h
  rw [w_impl_shapeBytes ns K]
  have hs := hg
  unfold smallS at hs
  simp only [Bool.and_eq_true, decide_eq_true_eq] at hs
  refine loop_run (σ := Nat) (fun i => fr_impl_shapeBytes_3 (wordB ns.length 1 ++ (ns.take i).flatMap nodeS) ns ns.length i) (fun _ => []) (fun i => i ≤ ns.length) (fun i => ns.length - i) ?_ 0 (Nat.zero_le _)
  intro i hi Kn hk
  rw [r_impl_shapeBytes_3 (wordB ns.length 1 ++ (ns.take i).flatMap nodeS) ns ns.length i Kn K]
  by_cases hlt : i < ns.length
  · have hb := small_len hg i
    have hb' := small_len hg (i + 1)
    have hsm := List.all_eq_true.1 hs.2 _ (List.getElem_mem hlt)
    have next := hk (i + 1) hlt (by omega)
    rw [flat_take nodeS hlt] at next hb'
    simp only [d_lt hlt, d_0, cond_true, Int.toNat_natCast, get_lt hlt]
    generalize ns[i]'hlt = y at *
    obtain ⟨k, a, b, xs⟩ := y
    unfold smallN at hsm
    have hsm : xs.length ≤ 4 := of_decide_eq_true hsm
    have hf := floatsB_length xs
    simp only [List.length_append, wordB_length]
    rw [blt_big (m := 1 + 1) (by omega), blt_big (m := 1 + 1 + 1) (by omega), d_t (show xs.length ≤ 256 by omega), blt_big (m := 1 + 1 + 1 + (floatsB xs).length) (by omega), blt_big (by omega), i64_of (n := (i : Int) + 1) (by omega) (by omega)]
    rw [← List.append_assoc] at next
    exact next
  · have : i = ns.length := by omega
    subst this
    simp only [d_nlt hlt, cond_false, List.take_length]
    exact h

/-! spec.l10Shape -/
noncomputable def a_spec_l10Shape : Nat → Option Ann := fun n => bif Nat.beq n 3 then some ⟨[0,3,4],0,false⟩ else none
noncomputable def c_spec_l10Shape : Ctx := mkC Try.prog tyT [(24, s_spec_l10Word), (25, s_spec_l10Floats)] [] [] 53 a_spec_l10Shape 0
noncomputable def fr_spec_l10Shape_3 (ns : ShapeD) (out : List UInt8) (i : Int) : Fr := [(0, .ref [.vec tN ns] 0), (3, .str out), (4, .int .i64 i)]
theorem r_spec_l10Shape_3 (ns : ShapeD) (out : List UInt8) (i : Int) (Kn : Fr → Heap → Prop) (K : V → Heap → Prop) : round c_spec_l10Shape ⟨[0,3,4],0,false⟩ (lb c_spec_l10Shape 3 Try.f11) (fr_spec_l10Shape_3 ns out i) [] Kn (lk c_spec_l10Shape 3 Try.f11 [] K) =
  cond (decide (i < (↑(List.length ns) : Int)))
    (cond (decide (0 ≤ i))
      ((match ns[Int.toNat i]? with
        | some y0 => cond (Nat.blt (List.length (wordB (Prod.fst y0) 1) + List.length (wordB (Prod.fst (Prod.snd y0)) 1)) 9223372036854775808)
          (cond (Nat.blt (List.length (wordB (Prod.fst y0) 1 ++ wordB (Prod.fst (Prod.snd y0)) 1) + List.length (wordB (Prod.fst (Prod.snd (Prod.snd y0))) 1)) 9223372036854775808)
            (cond (decide (List.length (Prod.snd (Prod.snd (Prod.snd y0))) ≤ 256))
              (cond (Nat.blt (List.length (wordB (Prod.fst y0) 1 ++ wordB (Prod.fst (Prod.snd y0)) 1 ++ wordB (Prod.fst (Prod.snd (Prod.snd y0))) 1) + List.length (floatsB (Prod.snd (Prod.snd (Prod.snd y0))))) 9223372036854775808)
                (cond (Nat.blt (List.length out + List.length (wordB (Prod.fst y0) 1 ++ wordB (Prod.fst (Prod.snd y0)) 1 ++ wordB (Prod.fst (Prod.snd (Prod.snd y0))) 1 ++ floatsB (Prod.snd (Prod.snd (Prod.snd y0))))) 9223372036854775808)
                  (Kn [(0, (.ref [(.vec (.pair (.int .i64) (.pair (.int .i64) (.pair (.int .i64) (.slice (.float .f32))))) (ns))] 0)), (3, (.str (out ++ (wordB (Prod.fst y0) 1 ++ wordB (Prod.fst (Prod.snd y0)) 1 ++ wordB (Prod.fst (Prod.snd (Prod.snd y0))) 1 ++ floatsB (Prod.snd (Prod.snd (Prod.snd y0))))))), (4, (.int .i64 (IntKind.wrap IntKind.i64 (i + 1))))] [])
                  (False))
                (False))
              (False))
            (False))
          (False)
        | none => False))
      (False))
    (K (.str (out)) []) := by kernel_rfl
theorem w_spec_l10Shape (ns : ShapeD) (K : V → Heap → Prop) : wpFn c_spec_l10Shape Try.f11 (encAs [.ref (.slice tN)] (ns, ())) [] K =
  LoopE c_spec_l10Shape ⟨[0, 3, 4], 0, false⟩ (lb c_spec_l10Shape 3 Try.f11) [(0, (.ref [(.vec (.pair (.int .i64) (.pair (.int .i64) (.pair (.int .i64) (.slice (.float .f32))))) (ns))] 0)), (3, (.str (wordB (↑(List.length ns) : Int) 1))), (4, (.int .i64 0))] [] (lk c_spec_l10Shape 3 Try.f11 [] K) := by kernel_rfl
noncomputable def s_spec_l10Shape : Sm := semG [.ref (.slice tN)] (fun x => match x with | (ns, _) => smallS ns) fun x => match x with | (ns, _) => .str (shapeS ns)
theorem ok_spec_l10Shape : FnOk Try.prog 11 s_spec_l10Shape := fnOk_typedG (fnOk_runC (C := c_spec_l10Shape) rfl mixed (.cons ok_spec_l10Word (.cons ok_spec_l10Floats .nil)) .nil .nil Try.func11 (by kernel_rfl)) fun (x : ((ShapeD) × Unit)) wf hg K h => by
  obtain ⟨ns, ⟨⟩⟩ := x
  replace hg : (smallS ns) = true := hg
  replace h : K (.str (shapeS ns)) [] := h
  rw [w_spec_l10Shape ns K]
  have hs := hg
  unfold smallS at hs
  simp only [Bool.and_eq_true, decide_eq_true_eq] at hs
  refine loop_run (σ := Nat) (fun i => fr_spec_l10Shape_3 ns (wordB ns.length 1 ++ (ns.take i).flatMap nodeS) i) (fun _ => []) (fun i => i ≤ ns.length) (fun i => ns.length - i) ?_ 0 (Nat.zero_le _)
  intro i hi Kn hk
  rw [r_spec_l10Shape_3 ns (wordB ns.length 1 ++ (ns.take i).flatMap nodeS) i Kn K]
  by_cases hlt : i < ns.length
  · have hb := small_len hg i
    have hb' := small_len hg (i + 1)
    have hsm := List.all_eq_true.1 hs.2 _ (List.getElem_mem hlt)
    have next := hk (i + 1) hlt (by omega)
    rw [flat_take nodeS hlt] at next hb'
    simp only [d_lt hlt, d_0, cond_true, Int.toNat_natCast, get_lt hlt]
    generalize ns[i]'hlt = y at *
    obtain ⟨k, a, b, xs⟩ := y
    unfold smallN at hsm
    have hsm : xs.length ≤ 4 := of_decide_eq_true hsm
    have hf := floatsB_length xs
    simp only [List.length_append, wordB_length]
    rw [blt_big (m := 1 + 1) (by omega), blt_big (m := 1 + 1 + 1) (by omega), d_t (show xs.length ≤ 256 by omega), blt_big (m := 1 + 1 + 1 + (floatsB xs).length) (by omega), blt_big (by omega), i64_of (n := (i : Int) + 1) (by omega) (by omega)]
    rw [← List.append_assoc] at next
    exact next
  · have : i = ns.length := by omega
    subst this
    simp only [d_nlt hlt, cond_false, List.take_length]
    exact h

end Go.Proofs.Ytbbkhjeohfdcaaa
