/- Texts of numbers: hexadecimal digits, with commas between. -/
import Derived.Test.YtdlglcacdgcapaaDoorVec
import Derived.Test.YtdlglcacdgcapaaDoorLay
import Derived.Test.YtdlglcacdgcapaaDoorEvJoin
set_option linter.unusedVariables false
set_option linter.unusedSimpArgs false
set_option maxRecDepth 100000
namespace Go.Proofs.YtdlglcacdgcapaaDoor
open Go.Ev

/-! plain: digits -/
def hexL : List UInt8 := [48, 49, 50, 51, 52, 53, 54, 55, 56, 57, 97, 98, 99, 100, 101, 102]
theorem hex_get : ∀ n : Nat, n < 16 → (Array.toList (ByteArray.data { data := #[48, 49, 50, 51, 52, 53, 54, 55, 56, 57, 97, 98, 99, 100, 101, 102] }))[n]? = some (hexL.getD n 0) := by
  intro n h
  have key : ∀ n : Fin 16, (Array.toList (ByteArray.data { data := #[48, 49, 50, 51, 52, 53, 54, 55, 56, 57, 97, 98, 99, 100, 101, 102] }))[n.val]? = some (hexL.getD n.val 0) := by decide +kernel
  exact key ⟨n, h⟩
def nibV (x : Nat) (k : Int) : Int := IntKind.wrap IntKind.i64 ((BitVec.toNat (BitVec.ofInt 64 (Int.fdiv (x : Int) (2 ^ min (Int.toNat k) 64)) &&& BitVec.ofInt 64 15) : Nat) : Int)
theorem nib_range (x : Nat) (k : Int) : 0 ≤ nibV x k ∧ nibV x k < 16 := by
  unfold nibV
  have key : BitVec.toNat (BitVec.ofInt 64 (Int.fdiv (x : Int) (2 ^ min (Int.toNat k) 64)) &&& BitVec.ofInt 64 15) ≤ 15 := by
    rw [BitVec.toNat_and]
    refine Nat.le_trans Nat.and_le_right ?_
    decide
  generalize BitVec.toNat (BitVec.ofInt 64 (Int.fdiv (x : Int) (2 ^ min (Int.toNat k) 64)) &&& BitVec.ofInt 64 15) = n at key
  rw [i64_of (by omega) (by omega)]
  omega
def hexI (x : Nat) (k : Int) : Int := ((hexL.getD (nibV x k).toNat 0).toNat : Int)
def hexS (x : Nat) : List Int := (List.range 8).map fun (i : Nat) => hexI x (28 - 4 * (i : Int))
theorem hexS_take (x : Nat) {i : Nat} (h : i < 8) : (hexS x).take (i + 1) = (hexS x).take i ++ [hexI x (28 - 4 * (i : Int))] := by
  have hl : i < (hexS x).length := by simp [hexS]; exact h
  rw [take_one hl]
  simp [hexS]
theorem hexS_all (x : Nat) : (hexS x).take 8 = hexS x := by rw [List.take_of_length_le]; simp [hexS]
--B hexB Nat → List UInt8
def hexB (x : Nat) : List UInt8 := toU8 (hexS x)
theorem hexB_length (x : Nat) : (hexB x).length = 8 := by simp [hexB, toU8, hexS]
abbrev noneB : List UInt8 := [110, 111, 110, 101]

theorem joinL_snoc {xs : List (List UInt8)} (h : xs ≠ []) (y sep : List UInt8) : joinL (xs ++ [y]) sep = joinL xs sep ++ (sep ++ y) := by
  match xs, h with
  | x :: r, _ =>
    show Lib.join (x :: (r ++ [y])) sep = Lib.join (x :: r) sep ++ (sep ++ y)
    rw [Lib.join_cons, Lib.join_cons]
    simp [Lib.joinTail, List.append_assoc]
theorem joinL_one (x sep : List UInt8) : joinL [x] sep = x := Lib.join_one x sep
theorem lens_same {α : Type} (f : α → List UInt8) (n : Nat) (h : ∀ x, (f x).length = n) (xs : List α) : Lib.lens (xs.map f) = n * xs.length := by
  induction xs with
  | nil => rfl
  | cons x xs ih =>
    simp only [Lib.lens, List.map_cons, List.sum_cons, List.length_cons] at ih ⊢
    rw [ih, h, Nat.mul_succ]; omega
theorem joinL_len {α : Type} (f : α → List UInt8) (n : Nat) (h : ∀ x, (f x).length = n) (xs : List α) (sep : List UInt8) : (joinL (xs.map f) sep).length ≤ (sep.length + n) * xs.length := by
  match xs with
  | [] => simp [joinL, Lib.join_nil]
  | x :: r =>
    show (Lib.join (f x :: r.map f) sep).length ≤ _
    rw [Lib.join_length]
    have := lens_same f n h (x :: r)
    rw [List.map_cons] at this
    rw [this, List.length_map, List.length_cons, Nat.add_mul]
    have : sep.length * r.length ≤ sep.length * (r.length + 1) := Nat.mul_le_mul_left _ (by omega)
    omega

--B numT List Nat → List UInt8
def numT (xs : List Nat) : List UInt8 := bif xs.isEmpty then noneB else joinL (xs.map hexB) [44]
theorem numT_nil : numT [] = noneB := rfl
theorem numT_cons (x : Nat) (xs : List Nat) : numT (x :: xs) = joinL ((x :: xs).map hexB) [44] := rfl
theorem numT_len (xs : List Nat) : (numT xs).length ≤ 4 + 9 * xs.length := by
  match xs with
  | [] => rw [numT_nil]; decide
  | x :: r =>
    rw [numT_cons]
    have := joinL_len hexB 8 hexB_length (x :: r) [44]
    simp only [List.length_cons, List.length_nil] at this ⊢
    omega
--B commaT List (List UInt8) → List UInt8
def commaT (xs : List (List UInt8)) : List UInt8 := bif xs.isEmpty then noneB else joinL xs [44]

abbrev s_strings_Join : Sm := sJoin
theorem ok_strings_Join : FnOk Tryd.prog 52 sJoin := ok_Join Tryd.laysn156 Tryd.laysn156_X rfl (by kernel_rfl) (by kernel_rfl)

/-! impl.BitsOf -/
noncomputable def c_impl_BitsOf_vt : Ctx := mkC Tryd.prog tyT [(51, s_impl_isNaN), (46, s_math_Float32bits)] [] [] 8 (fun _ => none) 0
theorem w_impl_BitsOf_vt (x : Nat) (K : V → Heap → Prop) : wpFn c_impl_BitsOf_vt Tryd.f40 (encAs [.cell tF] (x, ())) [] K =
  cond (nan FloatKind.f32 x)
    (K (.int .i64 2143289344) [])
    (cond (nan FloatKind.f32 x)
      (False)
      (K (.int .i64 (IntKind.wrap IntKind.i64 (↑x : Int))) [])) := by kernel_rfl
noncomputable def s_impl_BitsOf_vt : Sm := semT [.cell tF] fun x => match x with | (x, _) => .int .i64 x
theorem ok_impl_BitsOf_vt : FnOk Tryd.prog 40 s_impl_BitsOf_vt := fnOk_typed (fnOk_runC (C := c_impl_BitsOf_vt) rfl mixed (.cons ok_impl_isNaN (.cons ok_math_Float32bits .nil)) .nil .nil Tryd.func40 (by kernel_rfl)) fun (x : ((Nat) × Unit)) wf K h => by
  obtain ⟨x, ⟨⟩⟩ := x
  replace h : K (.int .i64 x) [] := h
  rw [w_impl_BitsOf_vt x K]
  obtain ⟨⟨w1, w2⟩, _⟩ := wf
  have w1 : x < 4294967296 := w1
  cases e : nan .f32 x with
  | true => simp only [cond_true]; replace w2 : canon .f32 x = x := w2; rw [← w2, canon_nan e] at h; exact h
  | false =>
    simp only [cond_false]
    rw [i64_of (by omega) (by omega)]
    exact h

/-! impl.listOk -/
noncomputable def c_impl_listOk : Ctx := mkC Tryd.prog tyT [] [] [] 6 (fun _ => none) 0
theorem w_impl_listOk (xs : List Nat) (K : V → Heap → Prop) : wpFn c_impl_listOk Tryd.f39 (encAs [.cell (.slice tF)] (xs, ())) [] K =
  K (.bool (decide ((↑(List.length xs) : Int) ≤ 256))) [] := by kernel_rfl
noncomputable def s_impl_listOk : Sm := semT [.cell (.slice tF)] fun x => match x with | (xs, _) => .bool (decide (xs.length ≤ 256))
theorem ok_impl_listOk : FnOk Tryd.prog 39 s_impl_listOk := fnOk_typed (fnOk_runC (C := c_impl_listOk) rfl mixed .nil .nil .nil Tryd.func39 (by kernel_rfl)) fun (x : ((List Nat) × Unit)) wf K h => by
  obtain ⟨xs, ⟨⟩⟩ := x
  replace h : K (.bool (decide (xs.length ≤ 256))) [] := h
  rw [w_impl_listOk xs K]
  have : decide ((xs.length : Int) ≤ 256) = decide (xs.length ≤ 256) := decide_eq_decide.2 (by omega)
  rw [this]; exact h


/-! impl.joined -/
noncomputable def c_impl_joined : Ctx := mkC Tryd.prog tyT [(52, s_strings_Join)] [] [] 8 (fun _ => none) 0
theorem w_impl_joined (xs : List (List UInt8)) (K : V → Heap → Prop) : wpFn c_impl_joined Tryd.f41 (encAs [.cell (.slice .str)] (xs, ())) [] K =
  cond ((↑(List.length xs) : Int) == 0)
    (K (.str (Array.toList (ByteArray.data { data := #[110, 111, 110, 101] }))) [])
    (cond (decide (List.length xs ≤ 140737488355328) && decide (List.length (joinL xs (Array.toList (ByteArray.data { data := #[44] }))) ≤ 140737488355328))
      (K (.str (joinL xs (Array.toList (ByteArray.data { data := #[44] })))) [])
      (False)) := by kernel_rfl
noncomputable def s_impl_joined : Sm := semG [.cell (.slice .str)] (fun x => match x with | (xs, _) => decide (xs.length ≤ 140737488355328) && decide ((joinL xs [44]).length ≤ 140737488355328)) fun x => match x with | (xs, _) => .str (commaT xs)
theorem ok_impl_joined : FnOk Tryd.prog 41 s_impl_joined := fnOk_typedG (fnOk_runC (C := c_impl_joined) rfl mixed (.cons ok_strings_Join .nil) .nil .nil Tryd.func41 (by kernel_rfl)) fun (x : ((List (List UInt8)) × Unit)) wf hg K h => by
  obtain ⟨xs, ⟨⟩⟩ := x
  replace hg : (decide (xs.length ≤ 140737488355328) && decide ((joinL xs [44]).length ≤ 140737488355328)) = true := hg
  replace h : K (.str (commaT xs)) [] := h
  rw [w_impl_joined xs K]
  match xs with
  | [] => exact h
  | y :: r =>
    have e : (((y :: r).length : Int) == 0) = false := beq_eq_false_iff_ne.2 (by simp only [List.length_cons]; omega)
    rw [e]
    simp only [cond_false]
    rw [show (decide ((y :: r).length ≤ 140737488355328) && decide ((joinL (y :: r) (Array.toList (ByteArray.data { data := #[44] }))).length ≤ 140737488355328)) = true from hg]
    exact h

/-! impl.NumbersText -/
noncomputable def a_impl_NumbersText : Nat → Option Ann := fun n => bif Nat.beq n 5 then some ⟨[4,13,14,15],1,false⟩ else bif Nat.beq n 9 then some ⟨[4,6,7,8,13,14,15],2,false⟩ else none
noncomputable def c_impl_NumbersText : Ctx := mkC Tryd.prog tyT [(39, s_impl_listOk), (40, s_impl_BitsOf_vt), (41, s_impl_joined)] [] [] 41 a_impl_NumbersText 0
noncomputable def fr_impl_NumbersText_5 (xs : List Nat) (ps : List (List UInt8)) (n i : Int) : Fr := [(4, .obj 0 0), (13, .vec tF xs), (14, .int .i64 n), (15, .int .i64 i)]
noncomputable def hp_impl_NumbersText_5 (xs : List Nat) (ps : List (List UInt8)) (n i : Int) : Heap := [.sl 0 .str ps]
theorem r_impl_NumbersText_5 (xs : List Nat) (ps : List (List UInt8)) (n i : Int) (Kn : Fr → Heap → Prop) (K : V → Heap → Prop) : round c_impl_NumbersText ⟨[4,13,14,15],1,false⟩ (lb c_impl_NumbersText 5 Tryd.f28) (fr_impl_NumbersText_5 xs ps n i) (hp_impl_NumbersText_5 xs ps n i) Kn (lk c_impl_NumbersText 5 Tryd.f28 [] K) =
  cond (decide (i < n))
    (cond (decide (0 ≤ i))
      ((match xs[Int.toNat i]? with
        | some y0 => LoopE c_impl_NumbersText ⟨[4, 6, 7, 8, 13, 14, 15], 2, false⟩ (pathB c_impl_NumbersText [5, 9] (bodyOf Tryd.f28)) [(4, (.obj 0 0)), (6, (.float .f32 (y0))), (7, (.obj 1 0)), (8, (.int .i64 28)), (13, (.vec (.float .f32) (xs))), (14, (.int .i64 (n))), (15, (.int .i64 (i)))] [(.sl 0 .str (ps)), (.sl 0 (.int .u8) ([]))] (pathK c_impl_NumbersText [(5, ⟨[4,13,14,15],1,false⟩, Kn)] 9 (bodyOf Tryd.f28) (kFn c_impl_NumbersText Tryd.f28 [] K))
        | none => False))
      (False))
    (cond (decide (List.length ps ≤ 140737488355328) && decide (List.length (joinL ps [44]) ≤ 140737488355328))
      (K (.tuple [(.str (commaT ps)), (.bool true)]) [])
      (False)) := by kernel_rfl
noncomputable def fr_impl_NumbersText_9 (xs : List Nat) (ps : List (List UInt8)) (n i : Int) (x : Nat) (k : Int) (ds : List Int) : Fr := [(4, .obj 0 0), (6, .float .f32 x), (7, .obj 1 0), (8, .int .i64 k), (13, .vec tF xs), (14, .int .i64 n), (15, .int .i64 i)]
noncomputable def hp_impl_NumbersText_9 (xs : List Nat) (ps : List (List UInt8)) (n i : Int) (x : Nat) (k : Int) (ds : List Int) : Heap := [.sl 0 .str ps, .sl 0 (.int .u8) ds]
theorem r_impl_NumbersText_9 (xs : List Nat) (ps : List (List UInt8)) (n i : Int) (x : Nat) (k : Int) (ds : List Int) (Kn5 : Fr → Heap → Prop) (Kn : Fr → Heap → Prop) (K : V → Heap → Prop) : round c_impl_NumbersText ⟨[4,6,7,8,13,14,15],2,false⟩ (pathB c_impl_NumbersText [5, 9] (bodyOf Tryd.f28)) (fr_impl_NumbersText_9 xs ps n i x k ds) (hp_impl_NumbersText_9 xs ps n i x k ds) Kn (pathK c_impl_NumbersText [(5, ⟨[4,13,14,15],1,false⟩, Kn5)] 9 (bodyOf Tryd.f28) (kFn c_impl_NumbersText Tryd.f28 [] K)) =
  cond (decide (k ≥ 0))
    (cond (decide (k < 0))
      (False)
      (cond (decide (0 ≤ IntKind.wrap IntKind.i64 (↑(BitVec.toNat (BitVec.ofInt 64 (Int.fdiv (↑x : Int) (2 ^ min (Int.toNat k) 64)) &&& BitVec.ofInt 64 15)) : Int)))
        ((match (Array.toList (ByteArray.data { data := #[48, 49, 50, 51, 52, 53, 54, 55, 56, 57, 97, 98, 99, 100, 101, 102] }))[Int.toNat (IntKind.wrap IntKind.i64 (↑(BitVec.toNat (BitVec.ofInt 64 (Int.fdiv (↑x : Int) (2 ^ min (Int.toNat k) 64)) &&& BitVec.ofInt 64 15)) : Int))]? with
          | some b0 => cond (decide ((List.length ds + 1) * 1 ≤ 140737488355328))
            (Kn [(4, (.obj 0 0)), (6, (.float .f32 (x))), (7, (.obj 1 0)), (8, (.int .i64 (IntKind.wrap IntKind.i64 (k - 4)))), (13, (.vec (.float .f32) (xs))), (14, (.int .i64 (n))), (15, (.int .i64 (i)))] [(.sl 0 .str (ps)), (.sl 0 (.int .u8) (ds ++ [(↑(UInt8.toNat b0) : Int)]))])
            (False)
          | none => False))
        (False)))
    (cond (decide ((List.length ps + 1) * 16 ≤ 140737488355328))
      (Kn5 [(4, (.obj 0 0)), (13, (.vec (.float .f32) (xs))), (14, (.int .i64 (n))), (15, (.int .i64 (IntKind.wrap IntKind.i64 (i + 1))))] [(.sl 0 .str (ps ++ [toU8 ds]))])
      (False)) := by kernel_rfl
theorem w_impl_NumbersText (xs : List Nat) (K : V → Heap → Prop) : wpFn c_impl_NumbersText Tryd.f28 (encAs [.cell (.slice tF)] (xs, ())) [] K =
  cond (!decide (List.length xs ≤ 256))
    (K (.tuple [(.str (Array.toList (ByteArray.data { data := #[] }))), (.bool false)]) [])
    (LoopE c_impl_NumbersText ⟨[4, 13, 14, 15], 1, false⟩ (lb c_impl_NumbersText 5 Tryd.f28) [(4, (.obj 0 0)), (13, (.vec (.float .f32) (xs))), (14, (.int .i64 ((↑(List.length xs) : Int)))), (15, (.int .i64 0))] [(.sl 0 .str ([]))] (lk c_impl_NumbersText 5 Tryd.f28 [] K)) := by kernel_rfl
noncomputable def s_impl_NumbersText : Sm := semT [.cell (.slice tF)] fun x => match x with | (xs, _) => .tuple [.str (bif decide (xs.length ≤ 256) then numT xs else []), .bool (decide (xs.length ≤ 256))]
theorem ok_impl_NumbersText : FnOk Tryd.prog 28 s_impl_NumbersText := fnOk_typed (fnOk_runC (C := c_impl_NumbersText) rfl mixed (.cons ok_impl_listOk (.cons ok_impl_BitsOf_vt (.cons ok_impl_joined .nil))) .nil .nil Tryd.func28 (by kernel_rfl)) fun (x : ((List Nat) × Unit)) wf K h => by
  obtain ⟨xs, ⟨⟩⟩ := x
  replace h : K (.tuple [.str (bif decide (xs.length ≤ 256) then numT xs else []), .bool (decide (xs.length ≤ 256))]) [] := h
  rw [w_impl_NumbersText xs K]
  by_cases hle : xs.length ≤ 256
  · rw [d_t hle] at h ⊢
    simp only [cond_true, cond_false, Bool.not_true] at h ⊢
    refine loop_run (σ := Nat) (fun i => fr_impl_NumbersText_5 xs [] xs.length i) (fun i => hp_impl_NumbersText_5 xs ((xs.take i).map hexB) xs.length i) (fun i => i ≤ xs.length) (fun i => xs.length - i) ?_ 0 (Nat.zero_le _)
    intro i hi Kn5 hk5
    rw [show fr_impl_NumbersText_5 xs [] xs.length i = fr_impl_NumbersText_5 xs ((xs.take i).map hexB) xs.length i from rfl, r_impl_NumbersText_5 xs ((xs.take i).map hexB) xs.length i Kn5 K]
    by_cases hlt : i < xs.length
    · simp only [d_lt hlt, d_0, cond_true, Int.toNat_natCast, get_lt hlt]
      refine loop_run (σ := Nat) (fun j => fr_impl_NumbersText_9 xs ((xs.take i).map hexB) xs.length i (xs[i]'hlt) (28 - 4 * (j : Int)) []) (fun j => hp_impl_NumbersText_9 xs ((xs.take i).map hexB) xs.length i (xs[i]'hlt) 0 ((hexS (xs[i]'hlt)).take j)) (fun j => j ≤ 8) (fun j => 8 - j) ?_ 0 (Nat.zero_le _)
      intro j hj Kn hk
      rw [show fr_impl_NumbersText_9 xs ((xs.take i).map hexB) xs.length i (xs[i]'hlt) (28 - 4 * (j : Int)) [] = fr_impl_NumbersText_9 xs ((xs.take i).map hexB) xs.length i (xs[i]'hlt) (28 - 4 * (j : Int)) ((hexS (xs[i]'hlt)).take j) from rfl, show hp_impl_NumbersText_9 xs ((xs.take i).map hexB) xs.length i (xs[i]'hlt) 0 ((hexS (xs[i]'hlt)).take j) = hp_impl_NumbersText_9 xs ((xs.take i).map hexB) xs.length i (xs[i]'hlt) (28 - 4 * (j : Int)) ((hexS (xs[i]'hlt)).take j) from rfl]
      rw [r_impl_NumbersText_9 xs ((xs.take i).map hexB) xs.length i (xs[i]'hlt) (28 - 4 * (j : Int)) ((hexS (xs[i]'hlt)).take j) Kn5 Kn K]
      by_cases hjl : j < 8
      · have hn := nib_range (xs[i]'hlt) (28 - 4 * (j : Int))
        have hl : ((hexS (xs[i]'hlt)).take j).length = j := by rw [List.length_take]; simp [hexS]; omega
        change cond (decide (28 - 4 * (j : Int) ≥ 0)) (cond (decide (28 - 4 * (j : Int) < 0)) _ (cond (decide (0 ≤ nibV (xs[i]'hlt) (28 - 4 * (j : Int)))) (match (Array.toList (ByteArray.data { data := #[48, 49, 50, 51, 52, 53, 54, 55, 56, 57, 97, 98, 99, 100, 101, 102] }))[(nibV (xs[i]'hlt) (28 - 4 * (j : Int))).toNat]? with | some b0 => _ | none => False) False)) _
        rw [hex_get _ (by omega)]
        simp only [d_t (show 28 - 4 * (j : Int) ≥ 0 by omega), d_f (show ¬ (28 - 4 * (j : Int)) < 0 by omega), d_t hn.1, cond_true, cond_false, hl, d_t (show (j + 1) * 1 ≤ 140737488355328 by omega)]
        rw [i64_of (by omega) (by omega)]
        have := hk (j + 1) (by omega) (by omega)
        rw [show (28 : Int) - 4 * ((j + 1 : Nat) : Int) = 28 - 4 * (j : Int) - 4 by omega] at this
        rw [show hp_impl_NumbersText_9 xs ((xs.take i).map hexB) xs.length i (xs[i]'hlt) 0 ((hexS (xs[i]'hlt)).take (j + 1)) = [.sl 0 .str ((xs.take i).map hexB), .sl 0 (.int .u8) ((hexS (xs[i]'hlt)).take j ++ [hexI (xs[i]'hlt) (28 - 4 * (j : Int))])] by rw [hexS_take _ hjl]; rfl] at this
        exact this
      · have : j = 8 := by omega
        subst this
        rw [d_f (show ¬ (28 - 4 * ((8 : Nat) : Int)) ≥ 0 by decide)]
        simp only [cond_false]
        have hl : ((xs.take i).map hexB).length ≤ 256 := by rw [List.length_map, List.length_take]; omega
        rw [d_t (show (((xs.take i).map hexB).length + 1) * 16 ≤ 140737488355328 by omega), hexS_all, i64_of (by omega) (by omega)]
        simp only [cond_true]
        have := hk5 (i + 1) (by omega) (by omega)
        rw [show hp_impl_NumbersText_5 xs ((xs.take (i + 1)).map hexB) xs.length ((i + 1 : Nat) : Int) = [.sl 0 .str ((xs.take i).map hexB ++ [toU8 (hexS (xs[i]'hlt))])] by rw [take_one hlt, List.map_append]; rfl] at this
        exact this
    · have : i = xs.length := by omega
      subst this
      simp only [d_nlt hlt, cond_false, List.take_length]
      have hb := joinL_len hexB 8 hexB_length xs [44]
      have hb : (joinL (xs.map hexB) [44]).length ≤ 9 * xs.length := hb
      rw [d_t (show (joinL (xs.map hexB) [44]).length ≤ 140737488355328 by omega), d_t (show (xs.map hexB).length ≤ 140737488355328 by rw [List.length_map]; omega)]
      simp only [Bool.and_self, cond_true]
      rw [show commaT (xs.map hexB) = numT xs by cases xs <;> rfl]
      exact h
  · rw [d_f hle] at h ⊢
    exact h




/-! impl.VectorText -/
noncomputable def c_impl_VectorText : Ctx := mkC Tryd.prog tyT [(29, s_impl_Vector_numbers), (28, s_impl_NumbersText)] [] [] 12 (fun _ => none) 0
theorem w_impl_VectorText (u : V3) (K : V → Heap → Prop) : wpFn c_impl_VectorText Tryd.f18 (encAs [.agg tV] (u, ())) [] K =
  K (.str (bif decide (3 ≤ 256) then numT [Prod.fst u, Prod.fst (Prod.snd u), Prod.snd (Prod.snd u)] else [])) [] := by kernel_rfl
noncomputable def s_impl_VectorText : Sm := semT [.agg tV] fun x => match x with | (u, _) => .str (numT [u.1, u.2.1, u.2.2])
theorem ok_impl_VectorText : FnOk Tryd.prog 18 s_impl_VectorText := fnOk_typed (fnOk_runC (C := c_impl_VectorText) rfl mixed (.cons ok_impl_Vector_numbers (.cons ok_impl_NumbersText .nil)) .nil .nil Tryd.func18 (by kernel_rfl)) fun (x : ((V3) × Unit)) wf K h => by
  obtain ⟨u, ⟨⟩⟩ := x
  replace h : K (.str (numT [u.1, u.2.1, u.2.2])) [] := h
  rw [w_impl_VectorText u K]
  exact h


end Go.Proofs.YtdlglcacdgcapaaDoor
