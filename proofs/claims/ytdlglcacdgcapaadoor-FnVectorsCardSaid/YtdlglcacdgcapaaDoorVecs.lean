/- Vectors: crosses, shares, and texts that are read back. -/
import Derived.Test.YtdlglcacdgcapaaDoorGeo
import Derived.Test.YtdlglcacdgcapaaDoorTxt
import Derived.Test.YtdlglcacdgcapaaDoorEvStr
set_option linter.unusedVariables false
set_option linter.unusedSimpArgs false
set_option maxRecDepth 100000
namespace Go.Proofs.YtdlglcacdgcapaaDoor
open Go.Ev Go.Ev.Fl

/-! plain: texts cut at a byte -/
theorem index_pre (c : UInt8) : ∀ (p r : List UInt8), c ∉ p → Lib.indexByte (p ++ c :: r) c = p.length
  | [], r, _ => by simp [Lib.indexByte]
  | b :: p, r, h => by
    simp only [List.mem_cons, not_or] at h
    have ih := index_pre c p r h.2
    show (if b == c then (0 : Int) else if Lib.indexByte (p ++ c :: r) c == -1 then -1 else Lib.indexByte (p ++ c :: r) c + 1) = _
    rw [ih, if_neg (by simpa using Ne.symm h.1), if_neg (by rw [beq_iff_eq]; omega)]
    simp
theorem split_last {c : UInt8} {p : List UInt8} (h : c ∉ p) : splitC p c = [p] := by
  unfold splitC Lib.split
  rw [Lib.count_one, List.count_eq_zero.2 h]
  rfl
theorem split_more {c : UInt8} {p : List UInt8} (r : List UInt8) (h : c ∉ p) : splitC (p ++ c :: r) c = p :: splitC r c := by
  have hi : Lib.index (p ++ c :: r) [c] = (p.length : Int) := by rw [Lib.index_one, index_pre c p r h]
  have hd : (p ++ c :: r).drop (p.length + ([c] : List UInt8).length) = r := by
    rw [show p ++ c :: r = (p ++ [c]) ++ r by simp, List.drop_left' (by simp)]
  have hc : Lib.count (p ++ c :: r) [c] = Lib.count r [c] + 1 := by
    rw [Lib.count_one, Lib.count_one, List.count_append, List.count_eq_zero.2 h, List.count_cons_self]
    omega
  unfold splitC Lib.split
  rw [hc, Lib.splitK, hi, Int.toNat_natCast, hd, if_neg (by rw [beq_iff_eq]; omega)]
  simp
theorem split_join {c : UInt8} : ∀ (p : List UInt8) (ps : List (List UInt8)), (∀ q ∈ p :: ps, c ∉ q) → splitC (joinL (p :: ps) [c]) c = p :: ps
  | p, [], h => by rw [joinL_one]; exact split_last (h p (List.mem_singleton.2 rfl))
  | p, q :: ps, h => by
    have ih := split_join q ps fun x hx => h x (List.mem_cons_of_mem _ hx)
    rw [show joinL (p :: q :: ps) [c] = p ++ c :: joinL (q :: ps) [c] by
      show Lib.join (p :: q :: ps) [c] = p ++ c :: Lib.join (q :: ps) [c]
      rw [Lib.join_cons, Lib.join_cons]
      simp [Lib.joinTail], split_more _ (h p (List.mem_cons_self ..)), ih]

/-! plain: hexadecimal digits read back -/
def dig (x : Nat) (i : Nat) : Nat := x / 16 ^ (7 - i) % 16
theorem dig_lt (x i : Nat) : dig x i < 16 := Nat.mod_lt _ (by decide)
theorem nib_dig {x i : Nat} (hx : x < 4294967296) (hi : i < 8) : nibV x (28 - 4 * (i : Int)) = dig x i := by
  have e1 : (28 - 4 * (i : Int)).toNat = 4 * (7 - i) := by omega
  have e2 : Int.fdiv (x : Int) (2 ^ min (4 * (7 - i)) 64) = ((x / 16 ^ (7 - i) : Nat) : Int) := by
    rw [Nat.min_eq_left (by omega), show (2 : Int) ^ (4 * (7 - i)) = ((16 ^ (7 - i) : Nat) : Int) by rw [Int.natCast_pow, show ((16 : Nat) : Int) = 2 ^ 4 from rfl, ← Int.pow_mul]]
    exact (Int.fdiv_eq_ediv_of_nonneg _ (Int.natCast_nonneg _)).trans (Int.natCast_ediv _ _).symm
  have hl : x / 16 ^ (7 - i) < 4294967296 := Nat.lt_of_le_of_lt (Nat.div_le_self _ _) hx
  unfold nibV dig
  rw [e1, e2]
  generalize x / 16 ^ (7 - i) = y at *
  have e3 : BitVec.toNat (BitVec.ofInt 64 (y : Int) &&& BitVec.ofInt 64 15) = y % 16 := by
    rw [BitVec.toNat_and, BitVec.ofInt_natCast, BitVec.toNat_ofNat, Nat.mod_eq_of_lt (show y < 2 ^ 64 by omega)]
    exact Nat.and_two_pow_sub_one_eq_mod y 4
  rw [e3, i64_of (by omega) (by omega)]
theorem hexB_get {x i : Nat} (hx : x < 4294967296) (hi : i < 8) : (hexB x)[i]? = some (hexL.getD (dig x i) 0) := by
  unfold hexB toU8 hexS
  rw [List.map_map, List.getElem?_map, List.getElem?_range hi]
  simp only [Option.map_some, Function.comp, hexI, nib_dig hx hi]
  have : dig x i < 16 := dig_lt x i
  congr 1
  simp only [Int.toNat_natCast]
  generalize hexL.getD (dig x i) 0 = b
  exact UInt8.ofNat_toNat ..
theorem hex_no : ∀ n : Nat, n < 16 → hexL.getD n 0 ≠ 44 := by
  intro n h
  have key : ∀ n : Fin 16, hexL.getD n.val 0 ≠ 44 := by decide
  exact key ⟨n, h⟩
theorem hex_index : ∀ n : Nat, n < 16 → indexB hexL (hexL.getD n 0) = n := by
  intro n h
  have key : ∀ n : Fin 16, indexB hexL (hexL.getD n.val 0) = n.val := by decide
  exact key ⟨n, h⟩
theorem hexB_no {x : Nat} (hx : x < 4294967296) : (44 : UInt8) ∉ hexB x := by
  intro h
  obtain ⟨i, hi⟩ := List.mem_iff_getElem?.1 h
  rcases Nat.lt_or_ge i 8 with hl | hl
  · rw [hexB_get hx hl] at hi
    exact hex_no _ (dig_lt x i) (Option.some.inj hi)
  · rw [List.getElem?_eq_none (by rw [hexB_length]; exact hl)] at hi
    cases hi

/-- The number that a text of digits stands for. -/
def hexVal (s : List UInt8) : Nat := s.foldl (fun n c => n * 16 + (indexB hexL c).toNat) 0
def hexOk (s : List UInt8) : Bool := decide (hexVal s < 4294967296) && (Nat.beq (canon .f32 (hexVal s)) (hexVal s) && decide (s = hexB (hexVal s)))
theorem hex_fold {x : Nat} (hx : x < 4294967296) : ∀ i, i ≤ 8 → ((hexB x).take i).foldl (fun n c => n * 16 + (indexB hexL c).toNat) 0 = x / 16 ^ (8 - i)
  | 0, _ => by rw [List.take_zero]; exact (Nat.div_eq_of_lt (by show x < 16 ^ 8; exact hx)).symm
  | i + 1, h => by
    have hl : i < (hexB x).length := by rw [hexB_length]; omega
    rw [take_one hl, List.foldl_append, hex_fold hx i (by omega)]
    have e := hexB_get hx (show i < 8 by omega)
    rw [List.getElem?_eq_getElem hl] at e
    simp only [List.foldl_cons, List.foldl_nil, Option.some.inj e, hex_index _ (dig_lt x i), Int.toNat_natCast]
    unfold dig
    rw [show 8 - i = (7 - i) + 1 by omega, show 8 - (i + 1) = 7 - i by omega, Nat.pow_succ, ← Nat.div_div_eq_div_mul]
    omega
theorem hexVal_hex {x : Nat} (hx : x < 4294967296) : hexVal (hexB x) = x := by
  have := hex_fold hx 8 (Nat.le_refl _)
  rw [List.take_of_length_le (by rw [hexB_length]; exact Nat.le_refl _)] at this
  rw [hexVal, this]
  simp
theorem hexOk_hex {x : Nat} (h : Wd x) : hexOk (hexB x) = true := by
  have hx : x < 4294967296 := h.1
  unfold hexOk
  rw [hexVal_hex hx, d_t hx, d_t rfl, h.2, nbeq_t rfl]
  rfl

abbrev s_strings_IndexByte : Sm := sIdx1
theorem ok_strings_IndexByte : FnOk Tryd.prog 54 sIdx1 := ok_Idx1 Tryd.laysn137 rfl
abbrev s_strings_Split : Sm := sSplit1
theorem ok_strings_Split : FnOk Tryd.prog 53 sSplit1 := ok_Split1 Tryd.laysn146 rfl (by kernel_rfl) (by kernel_rfl) (by kernel_rfl)

--B partsV List UInt8 → List (List UInt8)
def partsV (s : List UInt8) : List (List UInt8) := bif s == noneB then [] else splitC s 44
/-! impl.parted -/
noncomputable def c_impl_parted : Ctx := mkC Tryd.prog tyT [(53, s_strings_Split)] [] [] 7 (fun _ => none) 0
theorem w_impl_parted (t : List UInt8) (K : V → Heap → Prop) : wpFn c_impl_parted Tryd.f42 (encAs [.cell .str] (t, ())) [] K =
  cond (bytesEq t (Array.toList (ByteArray.data { data := #[110, 111, 110, 101] })))
    (K .nils [])
    (cond (decide (List.length t < 4294967281))
      (K (.vec .str (splitC t 44)) [])
      (False)) := by kernel_rfl
noncomputable def s_impl_parted : Sm := semG [.cell .str] (fun x => match x with | (t, _) => decide (t.length < 4294967281) && !(t == noneB)) fun x => match x with | (t, _) => .vec .str (partsV t)
theorem ok_impl_parted : FnOk Tryd.prog 42 s_impl_parted := fnOk_typedG (fnOk_runC (C := c_impl_parted) rfl mixed (.cons ok_strings_Split .nil) .nil .nil Tryd.func42 (by kernel_rfl)) fun (x : ((List UInt8) × Unit)) wf hg K h => by
  obtain ⟨t, ⟨⟩⟩ := x
  replace hg : (decide (t.length < 4294967281) && !(t == noneB)) = true := hg
  replace h : K (.vec .str (partsV t)) [] := h
  rw [w_impl_parted t K]
  simp only [Bool.and_eq_true, Bool.not_eq_true'] at hg
  rw [hg.1, show bytesEq t (Array.toList (ByteArray.data { data := #[110, 111, 110, 101] })) = (t == noneB) from rfl, hg.2]
  unfold partsV at h
  rw [hg.2] at h
  exact h

def preV (x : Nat) : Nat → Int
  | 0 => 0
  | i + 1 => ((x / 16 ^ (7 - i) : Nat) : Int)
theorem preV_eq {x : Nat} (hx : x < 4294967296) (i : Nat) : preV x i = ((x / 16 ^ (8 - i) : Nat) : Int) := by
  cases i with
  | zero => exact (congrArg Int.ofNat (Nat.div_eq_of_lt (show x < 16 ^ 8 from hx))).symm
  | succ i => show ((x / 16 ^ (7 - i) : Nat) : Int) = _; rw [show 8 - (i + 1) = 7 - i by omega]
/-! impl.readNumber -/
noncomputable def a_impl_readNumber : Nat → Option Ann := fun n => bif Nat.beq n 3 then some ⟨[0,4,10,11],0,false⟩ else none
noncomputable def c_impl_readNumber : Ctx := mkC Tryd.prog tyT [(54, s_strings_IndexByte), (55, s_impl_FromBits), (40, s_impl_BitsOf)] [] [] 44 a_impl_readNumber 0
noncomputable def fr_impl_readNumber_3 (t : List UInt8) (sum m i : Int) : Fr := [(0, .str t), (4, .int .i64 sum), (10, .int .i64 m), (11, .int .i64 i)]
theorem r_impl_readNumber_3 (t : List UInt8) (sum m i : Int) (Kn : Fr → Heap → Prop) (K : V → Heap → Prop) : round c_impl_readNumber ⟨[0,4,10,11],0,false⟩ (lb c_impl_readNumber 3 Tryd.f43) (fr_impl_readNumber_3 t sum m i) [] Kn (lk c_impl_readNumber 3 Tryd.f43 [] K) =
  cond (decide (i < m))
    (cond (decide (0 ≤ i))
      ((match t[Int.toNat i]? with
        | some b0 => cond (decide (indexB (Array.toList (ByteArray.data { data := #[48, 49, 50, 51, 52, 53, 54, 55, 56, 57, 97, 98, 99, 100, 101, 102] })) (Nat.toUInt8 (Int.toNat (↑(UInt8.toNat b0) : Int))) < 0))
          (K (.tuple [(.float .f32 0), (.bool false)]) [])
          (cond (i == 8)
            (K (.tuple [(.float .f32 0), (.bool false)]) [])
            (Kn [(0, (.str (t))), (4, (.int .i64 (IntKind.wrap IntKind.i64 (IntKind.wrap IntKind.i64 (sum * 16) + indexB (Array.toList (ByteArray.data { data := #[48, 49, 50, 51, 52, 53, 54, 55, 56, 57, 97, 98, 99, 100, 101, 102] })) (Nat.toUInt8 (Int.toNat (↑(UInt8.toNat b0) : Int))))))), (10, (.int .i64 (m))), (11, (.int .i64 (IntKind.wrap IntKind.i64 (i + 1))))] []))
        | none => False))
      (False))
    (cond ((↑(List.length t) : Int) == 8)
      (K (.tuple [(.float .f32 (bif inU sum then fromV sum else 0)), (.bool ((↑(bif inU sum then fromV sum else 0) : Int) == sum))]) [])
      (K (.tuple [(.float .f32 (bif inU sum then fromV sum else 0)), (.bool false)]) [])) := by kernel_rfl
theorem w_impl_readNumber (t : List UInt8) (K : V → Heap → Prop) : wpFn c_impl_readNumber Tryd.f43 (encAs [.cell .str] (t, ())) [] K =
  LoopE c_impl_readNumber ⟨[0, 4, 10, 11], 0, false⟩ (lb c_impl_readNumber 3 Tryd.f43) [(0, (.str (t))), (4, (.int .i64 0)), (10, (.int .i64 ((↑(List.length t) : Int)))), (11, (.int .i64 0))] [] (lk c_impl_readNumber 3 Tryd.f43 [] K) := by kernel_rfl
noncomputable def s_impl_readNumber : Sm := semG [.cell .str] (fun x => match x with | (t, _) => hexOk t) fun x => match x with | (t, _) => .tuple [.float .f32 (hexVal t), .bool true]
theorem ok_impl_readNumber : FnOk Tryd.prog 43 s_impl_readNumber := fnOk_typedG (fnOk_runC (C := c_impl_readNumber) rfl mixed (.cons ok_strings_IndexByte (.cons ok_impl_FromBits (.cons ok_impl_BitsOf .nil))) .nil .nil Tryd.func43 (by kernel_rfl)) fun (x : ((List UInt8) × Unit)) wf hg K h => by
  obtain ⟨t, ⟨⟩⟩ := x
  replace hg : (hexOk t) = true := hg
  replace h : K (.tuple [.float .f32 (hexVal t), .bool true]) [] := h
  rw [w_impl_readNumber t K]
  unfold hexOk at hg
  simp only [Bool.and_eq_true, decide_eq_true_eq] at hg
  obtain ⟨hx, hc, ht⟩ := hg
  generalize hexVal t = x at *
  subst ht
  have hl := hexB_length x
  refine loop_run (σ := Nat) (fun i => fr_impl_readNumber_3 (hexB x) (preV x i) (hexB x).length i) (fun _ => []) (fun i => i ≤ 8) (fun i => 8 - i) ?_ 0 (Nat.zero_le _)
  intro i hi Kn hk
  rw [r_impl_readNumber_3 (hexB x) (preV x i) (hexB x).length i Kn K]
  by_cases hlt : i < 8
  · have hd := dig_lt x i
    have key : indexB (Array.toList (ByteArray.data { data := #[48, 49, 50, 51, 52, 53, 54, 55, 56, 57, 97, 98, 99, 100, 101, 102] })) (Nat.toUInt8 (Int.toNat (↑(UInt8.toNat (hexL.getD (dig x i) 0)) : Int))) = dig x i := by
      rw [Int.toNat_natCast, show Nat.toUInt8 (UInt8.toNat (hexL.getD (dig x i) 0)) = hexL.getD (dig x i) 0 from UInt8.ofNat_toNat ..]
      exact hex_index _ hd
    have hs : x / 16 ^ (8 - i) * 16 + dig x i = x / 16 ^ (7 - i) := by
      unfold dig
      rw [show 8 - i = (7 - i) + 1 by omega, Nat.pow_succ, ← Nat.div_div_eq_div_mul]
      omega
    have hb : x / 16 ^ (7 - i) ≤ x := Nat.div_le_self _ _
    rw [d_t (show (i : Int) < ((hexB x).length : Nat) by omega), d_0, Int.toNat_natCast, hexB_get hx hlt]
    simp only [cond_true, key]
    rw [d_f (show ¬ ((dig x i : Nat) : Int) < 0 by omega), beq_eq_false_iff_ne.2 (show ((i : Nat) : Int) ≠ 8 by omega), preV_eq hx i, i64_of (n := ((x / 16 ^ (8 - i) : Nat) : Int) * 16) (by omega) (by omega), i64_of (by omega) (by omega), i64_of (n := (i : Int) + 1) (by omega) (by omega), show ((x / 16 ^ (8 - i) : Nat) : Int) * 16 + (dig x i : Nat) = preV x (i + 1) by show _ = ((x / 16 ^ (7 - i) : Nat) : Int); omega]
    exact hk (i + 1) hlt (by omega)
  · have : i = 8 := by omega
    subst this
    have e1 : preV x 8 = (x : Int) := by show ((x / 16 ^ (7 - 7) : Nat) : Int) = x; simp
    have e2 : inU (x : Int) = true := by unfold inU; rw [d_t (by omega), d_t (by omega)]; rfl
    have e3 : fromV (x : Int) = x := by unfold fromV; rw [IntKind.wrap_u32, show ((x : Int) % 4294967296).toNat = x by omega]; exact Nat.eq_of_beq_eq_true hc
    rw [d_f (show ¬ ((8 : Nat) : Int) < ((hexB x).length : Nat) by omega), e1, e2]
    simp only [cond_true, cond_false, e3, hl]
    rw [show (((x : Nat) : Int) == (x : Int)) = true from beq_self_eq_true _]
    exact h

def numsOk (t : List UInt8) : Bool := (decide (t.length < 4294967281) && !(t == noneB)) && (decide ((partsV t).length ≤ 256) && (partsV t).all hexOk)
/-! impl.ReadNumbers -/
noncomputable def a_impl_ReadNumbers : Nat → Option Ann := fun n => bif Nat.beq n 3 then some ⟨[4,11,12,13],1,false⟩ else none
noncomputable def c_impl_ReadNumbers : Ctx := mkC Tryd.prog tyT [(42, s_impl_parted), (43, s_impl_readNumber)] [] [] 35 a_impl_ReadNumbers 0
noncomputable def fr_impl_ReadNumbers_3 (ps : List (List UInt8)) (out : List Nat) (m i : Int) : Fr := [(4, .obj 0 0), (11, .vec .str ps), (12, .int .i64 m), (13, .int .i64 i)]
noncomputable def hp_impl_ReadNumbers_3 (ps : List (List UInt8)) (out : List Nat) (m i : Int) : Heap := [.sl 0 tF out]
theorem r_impl_ReadNumbers_3 (ps : List (List UInt8)) (out : List Nat) (m i : Int) (Kn : Fr → Heap → Prop) (K : V → Heap → Prop) : round c_impl_ReadNumbers ⟨[4,11,12,13],1,false⟩ (lb c_impl_ReadNumbers 3 Tryd.f30) (fr_impl_ReadNumbers_3 ps out m i) (hp_impl_ReadNumbers_3 ps out m i) Kn (lk c_impl_ReadNumbers 3 Tryd.f30 [] K) =
  cond (decide (i < m))
    (cond (decide (0 ≤ i))
      ((match ps[Int.toNat i]? with
        | some y0 => cond (hexOk y0)
          (cond ((↑(List.length out) : Int) == 256)
            (K (.tuple [.nils, (.bool false)]) [])
            (cond (decide ((List.length out + 1) * 4 ≤ 140737488355328))
              (Kn [(4, (.obj 0 0)), (11, (.vec .str (ps))), (12, (.int .i64 (m))), (13, (.int .i64 (IntKind.wrap IntKind.i64 (i + 1))))] [(.sl 0 (.float .f32) (out ++ [hexVal y0]))])
              (False)))
          (False)
        | none => False))
      (False))
    (K (.tuple [(.vec (.float .f32) (out)), (.bool true)]) []) := by kernel_rfl
theorem w_impl_ReadNumbers (t : List UInt8) (K : V → Heap → Prop) : wpFn c_impl_ReadNumbers Tryd.f30 (encAs [.cell .str] (t, ())) [] K =
  cond (decide (List.length t < 4294967281) && !t == noneB)
    (LoopE c_impl_ReadNumbers ⟨[4, 11, 12, 13], 1, false⟩ (lb c_impl_ReadNumbers 3 Tryd.f30) [(4, (.obj 0 0)), (11, (.vec .str (partsV t))), (12, (.int .i64 ((↑(List.length (partsV t)) : Int)))), (13, (.int .i64 0))] [(.sl 0 (.float .f32) ([]))] (lk c_impl_ReadNumbers 3 Tryd.f30 [] K))
    (False) := by kernel_rfl
noncomputable def s_impl_ReadNumbers : Sm := semG [.cell .str] (fun x => match x with | (t, _) => numsOk t) fun x => match x with | (t, _) => .tuple [.vec tF ((partsV t).map hexVal), .bool true]
theorem ok_impl_ReadNumbers : FnOk Tryd.prog 30 s_impl_ReadNumbers := fnOk_typedG (fnOk_runC (C := c_impl_ReadNumbers) rfl mixed (.cons ok_impl_parted (.cons ok_impl_readNumber .nil)) .nil .nil Tryd.func30 (by kernel_rfl)) fun (x : ((List UInt8) × Unit)) wf hg K h => by
  obtain ⟨t, ⟨⟩⟩ := x
  replace hg : (numsOk t) = true := hg
  replace h : K (.tuple [.vec tF ((partsV t).map hexVal), .bool true]) [] := h
  rw [w_impl_ReadNumbers t K]
  simp only [numsOk, Bool.and_eq_true, decide_eq_true_eq] at hg
  obtain ⟨g1, g2, g3⟩ := hg
  rw [d_t g1.1, g1.2]
  simp only [Bool.and_self, cond_true]
  generalize partsV t = ps at *
  refine loop_run (σ := Nat) (fun i => fr_impl_ReadNumbers_3 ps [] ps.length i) (fun i => hp_impl_ReadNumbers_3 ps ((ps.take i).map hexVal) ps.length i) (fun i => i ≤ ps.length) (fun i => ps.length - i) ?_ 0 (Nat.zero_le _)
  intro i hi Kn hk
  rw [show fr_impl_ReadNumbers_3 ps [] ps.length i = fr_impl_ReadNumbers_3 ps ((ps.take i).map hexVal) ps.length i from rfl, r_impl_ReadNumbers_3 ps ((ps.take i).map hexVal) ps.length i Kn K]
  by_cases hlt : i < ps.length
  · have hl : ((ps.take i).map hexVal).length = i := by rw [List.length_map, List.length_take]; omega
    simp only [d_lt hlt, d_0, cond_true, Int.toNat_natCast, get_lt hlt]
    rw [List.all_eq_true.1 g3 _ (List.getElem_mem hlt), hl, beq_eq_false_iff_ne.2 (show ((i : Nat) : Int) ≠ 256 by omega), d_t (show (i + 1) * 4 ≤ 140737488355328 by omega), i64_of (by omega) (by omega)]
    have := hk (i + 1) hlt (by omega)
    rw [show hp_impl_ReadNumbers_3 ps ((ps.take (i + 1)).map hexVal) ps.length ((i + 1 : Nat) : Int) = [.sl 0 (.float .f32) ((ps.take i).map hexVal ++ [hexVal (ps[i]'hlt)])] by rw [take_one hlt, List.map_append]; rfl] at this
    exact this
  · have : i = ps.length := by omega
    subst this
    simp only [d_nlt hlt, cond_false, List.take_length]
    exact h

def vecOf (t : List UInt8) : V3 := match (partsV t).map hexVal with
  | [a, b', c] => (a, b', c)
  | _ => (0, 0, 0)
/-! impl.ReadVector -/
noncomputable def c_impl_ReadVector : Ctx := mkC Tryd.prog tyT [(30, s_impl_ReadNumbers)] [] [] 29 (fun _ => none) 0
theorem w_impl_ReadVector (t : List UInt8) (K : V → Heap → Prop) : wpFn c_impl_ReadVector Tryd.f19 (encAs [.cell .str] (t, ())) [] K =
  cond (numsOk t)
    (cond ((↑(List.length (List.map hexVal (partsV t))) : Int) != 3)
      (K (.tuple [(.agg [(.float .f32 0), (.float .f32 0), (.float .f32 0)]), (.bool false)]) [])
      ((match (List.map hexVal (partsV t))[0]? with
        | some y0 => (match (List.map hexVal (partsV t))[1]? with
          | some y1 => (match (List.map hexVal (partsV t))[2]? with
            | some y2 => K (.tuple [(.agg [(.float .f32 (y0)), (.float .f32 (y1)), (.float .f32 (y2))]), (.bool true)]) []
            | none => False)
          | none => False)
        | none => False)))
    (False) := by kernel_rfl
noncomputable def s_impl_ReadVector : Sm := semG [.cell .str] (fun x => match x with | (t, _) => numsOk t && decide ((partsV t).length = 3)) fun x => match x with | (t, _) => .tuple [.agg (enc tV (vecOf t)), .bool true]
theorem ok_impl_ReadVector : FnOk Tryd.prog 19 s_impl_ReadVector := fnOk_typedG (fnOk_runC (C := c_impl_ReadVector) rfl mixed (.cons ok_impl_ReadNumbers .nil) .nil .nil Tryd.func19 (by kernel_rfl)) fun (x : ((List UInt8) × Unit)) wf hg K h => by
  obtain ⟨t, ⟨⟩⟩ := x
  replace hg : (numsOk t && decide ((partsV t).length = 3)) = true := hg
  replace h : K (.tuple [.agg (enc tV (vecOf t)), .bool true]) [] := h
  rw [w_impl_ReadVector t K]
  simp only [Bool.and_eq_true, decide_eq_true_eq] at hg
  rw [hg.1]
  unfold vecOf at h
  generalize partsV t = ps at *
  match ps, hg.2 with
  | [a, b', c], _ => exact h

/-! crosses and shares -/
--B crossN Nat → Nat → Nat → Nat → Nat
def crossN (a b' c d : Nat) : Nat := fsub .f32 (fmul .f32 a b') (fmul .f32 c d)
/-! impl.crossed -/
noncomputable def c_impl_crossed : Ctx := mkC Tryd.prog tyT [] [] [] 16 (fun _ => none) 0
theorem w_impl_crossed (a b' c d : Nat) (K : V → Heap → Prop) : wpFn c_impl_crossed Tryd.f23 (encAs [.cell tF, .cell tF, .cell tF, .cell tF] (a, b', c, d, ())) [] K =
  K (.float .f32 (fsub FloatKind.f32 (fmul FloatKind.f32 a b') (fmul FloatKind.f32 c d))) [] := by kernel_rfl
noncomputable def s_impl_crossed : Sm := semT [.cell tF, .cell tF, .cell tF, .cell tF] fun x => match x with | (a, b', c, d, _) => .float .f32 (crossN a b' c d)
theorem ok_impl_crossed : FnOk Tryd.prog 23 s_impl_crossed := fnOk_typed (fnOk_runC (C := c_impl_crossed) rfl mixed .nil .nil .nil Tryd.func23 (by kernel_rfl)) fun (x : ((Nat) × (Nat) × (Nat) × (Nat) × Unit)) wf K h => by
  obtain ⟨a, b', c, d, ⟨⟩⟩ := x
  replace h : K (.float .f32 (crossN a b' c d)) [] := h
  rw [w_impl_crossed a b' c d K]
  exact h

--B crossV Nat × Nat × Nat → Nat × Nat × Nat → Nat × Nat × Nat
def crossV (v w : V3) : V3 := (crossN v.2.1 w.2.2 v.2.2 w.2.1, crossN v.2.2 w.1 v.1 w.2.2, crossN v.1 w.2.1 v.2.1 w.1)
/-! impl.CrossOf -/
noncomputable def c_impl_CrossOf : Ctx := mkC Tryd.prog tyT [(23, s_impl_crossed)] [] [] 33 (fun _ => none) 0
theorem w_impl_CrossOf (v w : V3) (K : V → Heap → Prop) : wpFn c_impl_CrossOf Tryd.f6 (encAs [.agg tV, .agg tV] (v, w, ())) [] K =
  K (.agg [(.float .f32 (crossN (Prod.fst (Prod.snd v)) (Prod.snd (Prod.snd w)) (Prod.snd (Prod.snd v)) (Prod.fst (Prod.snd w)))), (.float .f32 (crossN (Prod.snd (Prod.snd v)) (Prod.fst w) (Prod.fst v) (Prod.snd (Prod.snd w)))), (.float .f32 (crossN (Prod.fst v) (Prod.fst (Prod.snd w)) (Prod.fst (Prod.snd v)) (Prod.fst w)))]) [] := by kernel_rfl
noncomputable def s_impl_CrossOf : Sm := semT [.agg tV, .agg tV] fun x => match x with | (v, w, _) => .agg (enc tV (crossV v w))
theorem ok_impl_CrossOf : FnOk Tryd.prog 6 s_impl_CrossOf := fnOk_typed (fnOk_runC (C := c_impl_CrossOf) rfl mixed (.cons ok_impl_crossed .nil) .nil .nil Tryd.func6 (by kernel_rfl)) fun (x : ((V3) × (V3) × Unit)) wf K h => by
  obtain ⟨v, w, ⟨⟩⟩ := x
  replace h : K (.agg (enc tV (crossV v w))) [] := h
  rw [w_impl_CrossOf v w K]
  exact h

--B betweenV Nat × Nat × Nat → Nat × Nat × Nat → Nat → Nat × Nat × Nat
def betweenV (v w : V3) (k : Nat) : V3 := addV v (scaleV (subV w v) k)
/-! impl.BetweenVectors -/
noncomputable def c_impl_BetweenVectors : Ctx := mkC Tryd.prog tyT [(8, s_impl_LessVectors), (9, s_impl_ScaleVector), (7, s_impl_AddVectors)] [] [] 14 (fun _ => none) 0
theorem w_impl_BetweenVectors (v w : V3) (k : Nat) (K : V → Heap → Prop) : wpFn c_impl_BetweenVectors Tryd.f16 (encAs [.agg tV, .agg tV, .cell tF] (v, w, k, ())) [] K =
  K (.agg [(.float .f32 (Prod.fst (addV v (scaleV (subV w v) k)))), (.float .f32 (Prod.fst (Prod.snd (addV v (scaleV (subV w v) k))))), (.float .f32 (Prod.snd (Prod.snd (addV v (scaleV (subV w v) k)))))]) [] := by kernel_rfl
noncomputable def s_impl_BetweenVectors : Sm := semT [.agg tV, .agg tV, .cell tF] fun x => match x with | (v, w, k, _) => .agg (enc tV (betweenV v w k))
theorem ok_impl_BetweenVectors : FnOk Tryd.prog 16 s_impl_BetweenVectors := fnOk_typed (fnOk_runC (C := c_impl_BetweenVectors) rfl mixed (.cons ok_impl_LessVectors (.cons ok_impl_ScaleVector (.cons ok_impl_AddVectors .nil))) .nil .nil Tryd.func16 (by kernel_rfl)) fun (x : ((V3) × (V3) × (Nat) × Unit)) wf K h => by
  obtain ⟨v, w, k, ⟨⟩⟩ := x
  replace h : K (.agg (enc tV (betweenV v w k))) [] := h
  rw [w_impl_BetweenVectors v w k K]
  exact h

--B sameV Nat × Nat × Nat → Nat × Nat × Nat → Bool
def sameV (v w : V3) : Bool := feq .f32 v.1 w.1 && (feq .f32 v.2.1 w.2.1 && feq .f32 v.2.2 w.2.2)
/-! laws.b10VEqual -/
noncomputable def c_laws_b10VEqual : Ctx := mkC Tryd.prog tyT [] [] [] 24 (fun _ => none) 0
theorem w_laws_b10VEqual (v w : V3) (K : V → Heap → Prop) : wpFn c_laws_b10VEqual Tryd.f10 (encAs [.agg tV, .agg tV] (v, w, ())) [] K =
  cond (feq FloatKind.f32 (Prod.fst v) (Prod.fst w))
    (cond (feq FloatKind.f32 (Prod.fst (Prod.snd v)) (Prod.fst (Prod.snd w)))
      (K (.bool (feq FloatKind.f32 (Prod.snd (Prod.snd v)) (Prod.snd (Prod.snd w)))) [])
      (K (.bool false) []))
    (K (.bool false) []) := by kernel_rfl
noncomputable def s_laws_b10VEqual : Sm := semT [.agg tV, .agg tV] fun x => match x with | (v, w, _) => .bool (sameV v w)
theorem ok_laws_b10VEqual : FnOk Tryd.prog 10 s_laws_b10VEqual := fnOk_typed (fnOk_runC (C := c_laws_b10VEqual) rfl mixed .nil .nil .nil Tryd.func10 (by kernel_rfl)) fun (x : ((V3) × (V3) × Unit)) wf K h => by
  obtain ⟨v, w, ⟨⟩⟩ := x
  replace h : K (.bool (sameV v w)) [] := h
  rw [w_laws_b10VEqual v w K]
  unfold sameV at h
  cases e1 : feq .f32 v.1 w.1 <;> rw [e1] at h
  · exact h
  · cases e2 : feq .f32 v.2.1 w.2.1 <;> rw [e2] at h <;> exact h

/-! laws.b10Square -/
noncomputable def c_laws_b10Square : Ctx := mkC Tryd.prog tyT [] [] [] 20 (fun _ => none) 0
theorem w_laws_b10Square (v : V3) (K : V → Heap → Prop) : wpFn c_laws_b10Square Tryd.f12 (encAs [.agg tV] (v, ())) [] K =
  K (.float .f32 (fadd FloatKind.f32 (fadd FloatKind.f32 (fmul FloatKind.f32 (Prod.fst v) (Prod.fst v)) (fmul FloatKind.f32 (Prod.fst (Prod.snd v)) (Prod.fst (Prod.snd v)))) (fmul FloatKind.f32 (Prod.snd (Prod.snd v)) (Prod.snd (Prod.snd v))))) [] := by kernel_rfl
noncomputable def s_laws_b10Square : Sm := semT [.agg tV] fun x => match x with | (v, _) => .float .f32 (innerV v v)
theorem ok_laws_b10Square : FnOk Tryd.prog 12 s_laws_b10Square := fnOk_typed (fnOk_runC (C := c_laws_b10Square) rfl mixed .nil .nil .nil Tryd.func12 (by kernel_rfl)) fun (x : ((V3) × Unit)) wf K h => by
  obtain ⟨v, ⟨⟩⟩ := x
  replace h : K (.float .f32 (innerV v v)) [] := h
  rw [w_laws_b10Square v K]
  exact h

/-! spec.l01Narrow -/
noncomputable def c_spec_l01Narrow : Ctx := mkC Tryd.prog tyT [] [] [] 5 (fun _ => none) 0
theorem w_spec_l01Narrow (x : Nat) (K : V → Heap → Prop) : wpFn c_spec_l01Narrow Tryd.f35 (encAs [.cell (.float .f64)] (x, ())) [] K =
  cond (ovf x)
    (K .undef [])
    (K (.float .f32 (narrow x)) []) := by kernel_rfl
noncomputable def s_spec_l01Narrow : Sm := semG [.cell (.float .f64)] (fun x => match x with | (x, _) => !ovf x) fun x => match x with | (x, _) => .float .f32 (narrow x)
theorem ok_spec_l01Narrow : FnOk Tryd.prog 35 s_spec_l01Narrow := fnOk_typedG (fnOk_runC (C := c_spec_l01Narrow) rfl mixed .nil .nil .nil Tryd.func35 (by kernel_rfl)) fun (x : ((Nat) × Unit)) wf hg K h => by
  obtain ⟨x, ⟨⟩⟩ := x
  replace hg : (!ovf x) = true := hg
  replace h : K (.float .f32 (narrow x)) [] := h
  rw [w_spec_l01Narrow x K]
  rw [Bool.not_eq_true'] at hg
  rw [hg]
  exact h

/-! spec.l01Sqrt -/
noncomputable def c_spec_l01Sqrt : Ctx := mkC Tryd.prog tyT [(34, s_math_Sqrt), (35, s_spec_l01Narrow)] [] [] 7 (fun _ => none) 0
theorem w_spec_l01Sqrt (x : Nat) (K : V → Heap → Prop) : wpFn c_spec_l01Sqrt Tryd.f26 (encAs [.cell tF] (x, ())) [] K =
  cond (!ovf (fsqrt FloatKind.f64 (widen x)))
    (K (.float .f32 (narrow (fsqrt FloatKind.f64 (widen x)))) [])
    (False) := by kernel_rfl
noncomputable def s_spec_l01Sqrt : Sm := semT [.cell tF] fun x => match x with | (x, _) => .float .f32 (rootV x)
theorem ok_spec_l01Sqrt : FnOk Tryd.prog 26 s_spec_l01Sqrt := fnOk_typed (fnOk_runC (C := c_spec_l01Sqrt) rfl mixed (.cons ok_math_Sqrt (.cons ok_spec_l01Narrow .nil)) .nil .nil Tryd.func26 (by kernel_rfl)) fun (x : ((Nat) × Unit)) wf K h => by
  obtain ⟨x, ⟨⟩⟩ := x
  replace h : K (.float .f32 (rootV x)) [] := h
  rw [w_spec_l01Sqrt x K]
  rw [root_ovf wf.1.1 wf.1.2]
  exact h

/-! spec.RootNumber -/
noncomputable def c_spec_RootNumber : Ctx := mkC Tryd.prog tyT [(26, s_spec_l01Sqrt)] [] [] 5 (fun _ => none) 0
theorem w_spec_RootNumber (x : Nat) (K : V → Heap → Prop) : wpFn c_spec_RootNumber Tryd.f15 (encAs [.cell tF] (x, ())) [] K =
  K (.float .f32 (rootV x)) [] := by kernel_rfl
noncomputable def s_spec_RootNumber : Sm := semT [.cell tF] fun x => match x with | (x, _) => .float .f32 (rootV x)
theorem ok_spec_RootNumber : FnOk Tryd.prog 15 s_spec_RootNumber := fnOk_typed (fnOk_runC (C := c_spec_RootNumber) rfl mixed (.cons ok_spec_l01Sqrt .nil) .nil .nil Tryd.func15 (by kernel_rfl)) fun (x : ((Nat) × Unit)) wf K h => by
  obtain ⟨x, ⟨⟩⟩ := x
  replace h : K (.float .f32 (rootV x)) [] := h
  rw [w_spec_RootNumber x K]
  exact h

--B intV SrcD → Int → Nat
def intV (s : SrcD) (m : Int) : Nat := FloatKind.f32.nearest (pickV s (2 * m + 1) - m)
--B intsV List Int → Int → Nat × Nat × Nat
def intsV (xs : List Int) (m : Int) : V3 := (intV (xs, 0, 0) m, intV (pickS (xs, 0, 0) (2 * m + 1)) m, intV (pickS (pickS (xs, 0, 0) (2 * m + 1)) (2 * m + 1)) m)
/-! spec.B10Vector -/
noncomputable def c_spec_B10Vector : Ctx := mkC Tryd.prog tyT [] [] [(21, s_spec_l00From), (22, s_spec_l00Src_pick)] 37 (fun _ => none) 0
theorem w_spec_B10Vector (xs : List Int) (m : Int) (K : V → Heap → Prop) : wpFn c_spec_B10Vector Tryd.f5 (encAs [.cell tB, .cell (.int .i64)] (xs, m, ())) [] K =
  cond (srcIn 6 (pickS (xs, 0, 0) (IntKind.wrap IntKind.i64 (IntKind.wrap IntKind.i64 (2 * m) + 1))))
    (cond (srcIn 6 (pickS (pickS (xs, 0, 0) (IntKind.wrap IntKind.i64 (IntKind.wrap IntKind.i64 (2 * m) + 1))) (IntKind.wrap IntKind.i64 (IntKind.wrap IntKind.i64 (2 * m) + 1))))
      (K (.agg [(.float .f32 (FloatKind.nearest FloatKind.f32 (IntKind.wrap IntKind.i64 (pickV (xs, 0, 0) (IntKind.wrap IntKind.i64 (IntKind.wrap IntKind.i64 (2 * m) + 1)) - m)))), (.float .f32 (FloatKind.nearest FloatKind.f32 (IntKind.wrap IntKind.i64 (pickV (pickS (xs, 0, 0) (IntKind.wrap IntKind.i64 (IntKind.wrap IntKind.i64 (2 * m) + 1))) (IntKind.wrap IntKind.i64 (IntKind.wrap IntKind.i64 (2 * m) + 1)) - m)))), (.float .f32 (FloatKind.nearest FloatKind.f32 (IntKind.wrap IntKind.i64 (pickV (pickS (pickS (xs, 0, 0) (IntKind.wrap IntKind.i64 (IntKind.wrap IntKind.i64 (2 * m) + 1))) (IntKind.wrap IntKind.i64 (IntKind.wrap IntKind.i64 (2 * m) + 1))) (IntKind.wrap IntKind.i64 (IntKind.wrap IntKind.i64 (2 * m) + 1)) - m))))]) [])
      (False))
    (False) := by kernel_rfl
noncomputable def s_spec_B10Vector : Sm := semG [.cell tB, .cell (.int .i64)] (fun x => match x with | (xs, m, _) => decide (0 ≤ m) && decide (m ≤ 1000000)) fun x => match x with | (xs, m, _) => .agg (enc tV (intsV xs m))
theorem ok_spec_B10Vector : FnOk Tryd.prog 5 s_spec_B10Vector := fnOk_typedG (fnOk_runC (C := c_spec_B10Vector) rfl mixed .nil .nil (.cons ok_spec_l00From (.cons ok_spec_l00Src_pick .nil)) Tryd.func5 (by kernel_rfl)) fun (x : ((List Int) × (Int) × Unit)) wf hg K h => by
  obtain ⟨xs, m, ⟨⟩⟩ := x
  replace hg : (decide (0 ≤ m) && decide (m ≤ 1000000)) = true := hg
  replace h : K (.agg (enc tV (intsV xs m))) [] := h
  rw [w_spec_B10Vector xs m K]
  simp only [Bool.and_eq_true, decide_eq_true_eq] at hg
  have b0 : bytes (xs, (0 : Int), (0 : Int)).1 := bytes_of wf.1
  have g0 : srcIn 1 (xs, 0, 0) = true := srcIn_iff.2 ⟨Int.le_refl _, by show (0 : Int) ≤ _; decide⟩
  rw [i64_of (n := 2 * m) (by omega) (by omega), i64_of (n := 2 * m + 1) (by omega) (by omega)]
  have b1 : bytes (pickS (xs, 0, 0) (2 * m + 1)).1 := by rw [pickS_1]; exact b0
  have b2 : bytes (pickS (pickS (xs, 0, 0) (2 * m + 1)) (2 * m + 1)).1 := by rw [pickS_1]; exact b1
  have r0 := pickV_range b0 (n := 2 * m + 1) (by omega)
  have r1 := pickV_range b1 (n := 2 * m + 1) (by omega)
  have r2 := pickV_range b2 (n := 2 * m + 1) (by omega)
  have g1 := srcIn_pick (2 * m + 1) g0
  rw [srcIn_mono (M := 6) g1 (by omega), srcIn_mono (M := 6) (srcIn_pick (2 * m + 1) g1) (by omega), i64_of (n := pickV (xs, 0, 0) (2 * m + 1) - m) (by omega) (by omega), i64_of (n := pickV (pickS (xs, 0, 0) (2 * m + 1)) (2 * m + 1) - m) (by omega) (by omega), i64_of (n := pickV (pickS (pickS (xs, 0, 0) (2 * m + 1)) (2 * m + 1)) (2 * m + 1) - m) (by omega) (by omega)]
  exact h

--B drawnV SrcD → Nat × Nat × Nat
def drawnV (s : SrcD) : V3 := (smallV (pickS s 10), bif pickV s 10 == 0 then floatV (smallS (smallS (smallS (pickS s 10)))) else smallV (smallS (pickS s 10)), smallV (smallS (smallS (pickS s 10))))
--B drawnS SrcD → SrcD
def drawnS (s : SrcD) : SrcD := bif pickV s 10 == 0 then floatS (smallS (smallS (smallS (pickS s 10)))) else smallS (smallS (smallS (pickS s 10)))
/-! spec.l01DrawVector -/
noncomputable def c_spec_l01DrawVector : Ctx := mkC Tryd.prog tyT [] [] [(36, s_spec_l00Src_one), (37, s_spec_l01DrawSmall), (38, s_spec_l01DrawFloat)] 21 (fun _ => none) 1
theorem w_spec_l01DrawVector (s : SrcD) (K : V → Heap → Prop) : wpFnO c_spec_l01DrawVector Tryd.f27 (.ptr 0 0 :: encAs [] ()) [.box (enc tSrc s)] K =
  cond (srcIn 6 s)
    (cond (srcIn 5 (pickS s 10))
      (cond (srcIn 5 (smallS (pickS s 10)))
        (cond (srcIn 5 (smallS (smallS (pickS s 10))))
          (cond (pickV s 10 == 0)
            (cond (srcIn 2 (smallS (smallS (smallS (pickS s 10)))))
              (K (.agg [(.float .f32 (smallV (pickS s 10))), (.float .f32 (floatV (smallS (smallS (smallS (pickS s 10)))))), (.float .f32 (smallV (smallS (smallS (pickS s 10)))))]) [(.box [(.vec (.int .u8) (Prod.fst (floatS (smallS (smallS (smallS (pickS s 10))))))), (.int .i64 (Prod.fst (Prod.snd (floatS (smallS (smallS (smallS (pickS s 10)))))))), (.int .u64 (Prod.snd (Prod.snd (floatS (smallS (smallS (smallS (pickS s 10))))))))])])
              (False))
            (K (.agg [(.float .f32 (smallV (pickS s 10))), (.float .f32 (smallV (smallS (pickS s 10)))), (.float .f32 (smallV (smallS (smallS (pickS s 10)))))]) [(.box [(.vec (.int .u8) (Prod.fst (smallS (smallS (smallS (pickS s 10)))))), (.int .i64 (Prod.fst (Prod.snd (smallS (smallS (smallS (pickS s 10))))))), (.int .u64 (Prod.snd (Prod.snd (smallS (smallS (smallS (pickS s 10)))))))])]))
          (False))
        (False))
      (False))
    (False) := by kernel_rfl
noncomputable def s_spec_l01DrawVector : Sm := semP tSrc [] (fun s x => match x with | _ => srcIn 1 s) fun s x => match x with | _ => (.agg (enc tV (drawnV s)), drawnS s)
theorem ok_spec_l01DrawVector : FnOkO Tryd.prog 27 s_spec_l01DrawVector := fnOkO_box (fnOkO_runC (C := c_spec_l01DrawVector) rfl mixed .nil .nil (.cons ok_spec_l00Src_one (.cons ok_spec_l01DrawSmall (.cons ok_spec_l01DrawFloat .nil))) Tryd.func27 (by kernel_rfl)) fun (s : SrcD) (x : Unit) ws wf hg K h => by
  obtain ⟨⟩ := x
  replace hg : (srcIn 1 s) = true := hg
  replace h : K (.agg (enc tV (drawnV s))) [.box (enc tSrc (drawnS s))] := h
  rw [w_spec_l01DrawVector s  K]
  have hat := srcIn_iff.1 hg
  have t0 := pickS_at s 10
  have t1 := pickS_at (pickS s 10) 33
  have t2 := pickS_at (smallS (pickS s 10)) 33
  have t3 := pickS_at (smallS (smallS (pickS s 10))) 33
  have k1 : smallS (pickS s 10) = pickS (pickS s 10) 33 := rfl
  have k2 : smallS (smallS (pickS s 10)) = pickS (smallS (pickS s 10)) 33 := rfl
  have k3 : smallS (smallS (smallS (pickS s 10))) = pickS (smallS (smallS (pickS s 10))) 33 := rfl
  rw [← k1] at t1
  rw [← k2] at t2
  rw [← k3] at t3
  rw [srcIn_mono (M := 6) hg (by omega), show srcIn 5 (pickS s 10) = true from srcIn_iff.2 (by omega), show srcIn 5 (smallS (pickS s 10)) = true from srcIn_iff.2 (by omega), show srcIn 5 (smallS (smallS (pickS s 10))) = true from srcIn_iff.2 (by omega), show srcIn 2 (smallS (smallS (smallS (pickS s 10)))) = true from srcIn_iff.2 (by omega)]
  unfold drawnV drawnS at h
  cases e : pickV s 10 == 0 <;> rw [e] at h <;> exact h

/-! spec.B10Any -/
noncomputable def c_spec_B10Any : Ctx := mkC Tryd.prog tyT [] [] [(21, s_spec_l00From), (27, s_spec_l01DrawVector)] 8 (fun _ => none) 0
theorem w_spec_B10Any (xs : List Int) (K : V → Heap → Prop) : wpFn c_spec_B10Any Tryd.f17 (encAs [.cell tB] (xs, ())) [] K =
  K (.agg [(.float .f32 (Prod.fst (drawnV (xs, 0, 0)))), (.float .f32 (Prod.fst (Prod.snd (drawnV (xs, 0, 0))))), (.float .f32 (Prod.snd (Prod.snd (drawnV (xs, 0, 0)))))]) [] := by kernel_rfl
noncomputable def s_spec_B10Any : Sm := semT [.cell tB] fun x => match x with | (xs, _) => .agg (enc tV (drawnV (xs, 0, 0)))
theorem ok_spec_B10Any : FnOk Tryd.prog 17 s_spec_B10Any := fnOk_typed (fnOk_runC (C := c_spec_B10Any) rfl mixed .nil .nil (.cons ok_spec_l00From (.cons ok_spec_l01DrawVector .nil)) Tryd.func17 (by kernel_rfl)) fun (x : ((List Int) × Unit)) wf K h => by
  obtain ⟨xs, ⟨⟩⟩ := x
  replace h : K (.agg (enc tV (drawnV (xs, 0, 0)))) [] := h
  rw [w_spec_B10Any xs K]
  exact h

/-! the law -/
theorem q_int {s : SrcD} (hb : bytes s.1) {m : Int} (h0 : 0 ≤ m) (hm : m ≤ 1000000) : ∃ q, Q 0 m.toNat (intV s m) q := by
  have r := pickV_range (s := s) hb (n := 2 * m + 1) (by omega)
  exact ⟨_, (nearest_lit (pickV s (2 * m + 1) - m) (by omega) rfl).le (by omega)⟩
theorem q_ints {xs : List Int} (hb : bytes xs) {m : Int} (h0 : 0 ≤ m) (hm : m ≤ 1000000) : ∃ x y z, QV 0 m.toNat (intsV xs m) x y z := by
  obtain ⟨x, hx⟩ := q_int (s := (xs, 0, 0)) hb h0 hm
  have b1 : bytes (pickS (xs, 0, 0) (2 * m + 1)).1 := by rw [pickS_1]; exact hb
  obtain ⟨y, hy⟩ := q_int b1 h0 hm
  have b2 : bytes (pickS (pickS (xs, 0, 0) (2 * m + 1)) (2 * m + 1)).1 := by rw [pickS_1]; exact b1
  obtain ⟨z, hz⟩ := q_int b2 h0 hm
  exact ⟨x, y, z, hx, hy, hz⟩
theorem QV.same {s b' t c : Nat} {v w : V3} {x y z p q r : Rat} (h : QV s b' v x y z) (h' : QV t c w p q r) (e1 : x = p) (e2 : y = q) (e3 : z = r) : sameV v w = true := by
  unfold sameV
  rw [h.x.x.feq h'.x.x, h.y.x.feq h'.y.x, h.z.x.feq h'.z.x, d_t e1, d_t e2, d_t e3]
  rfl
theorem QV.cross {v w : V3} {x y z p q r : Rat} (h : QV 0 50 v x y z) (h' : QV 0 50 w p q r) : QV 0 5000 (crossV v w) (y * r - z * q) (z * p - x * r) (x * q - y * p) :=
  ⟨((h.y.mul h'.z (by decide) (by decide)).sub (h.z.mul h'.y (by decide) (by decide)) (by decide) (by decide)).le (by decide),
   ((h.z.mul h'.x (by decide) (by decide)).sub (h.x.mul h'.z (by decide) (by decide)) (by decide) (by decide)).le (by decide),
   ((h.x.mul h'.y (by decide) (by decide)).sub (h.y.mul h'.x (by decide) (by decide)) (by decide) (by decide)).le (by decide)⟩
theorem vec_law {v w : V3} {x y z p q r : Rat} (h : QV 0 50 v x y z) (h' : QV 0 50 w p q r) :
    sameV (addV w (subV v w)) v = true ∧ feq .f32 (innerV (crossV v w) v) 0 = true ∧ feq .f32 (innerV (crossV v w) w) 0 = true ∧
    sameV (crossV v w) (scaleV (crossV w v) 3212836864) = true ∧ sameV (scaleV v 1073741824) (addV v v) = true ∧ feq .f32 (innerV v v) (innerV v v) = true ∧
    sameV (betweenV v w 0) v = true ∧ sameV (betweenV v w 1065353216) w = true := by
  have c1 := h.cross h'
  have c2 := h'.cross h
  have D := h'.sub h (by decide) (by decide)
  refine ⟨?_, ?_, ?_, ?_, ?_, ?_, ?_, ?_⟩
  · exact (h'.add (h.sub h' (by decide) (by decide)) (by decide) (by decide)).same h (by grind) (by grind) (by grind)
  · rw [(c1.inner h (by decide) (by decide)).x.feq q_zero.x, d_t (by grind)]
  · rw [(c1.inner h' (by decide) (by decide)).x.feq q_zero.x, d_t (by grind)]
  · exact c1.same (c2.scale q_neg1 (by decide) (by decide)) (by grind) (by grind) (by grind)
  · exact (h.scale q_two (by decide) (by decide)).same (h.add h (by decide) (by decide)) (by grind) (by grind) (by grind)
  · have e := h.inner h (by decide) (by decide)
    rw [e.x.feq e.x, d_t rfl]
  · exact (h.add (D.scale (q_zero.le (Nat.le_refl 0)) (by decide) (by decide) |> fun e => (⟨e.x.le (c := 0) (by decide), e.y.le (by decide), e.z.le (by decide)⟩ : QV 0 0 _ _ _ _)) (by decide) (by decide)).same h (by grind) (by grind) (by grind)
  · exact (h.add (D.scale q_one (by decide) (by decide)) (by decide) (by decide)).same h' (by grind) (by grind) (by grind)

theorem wd_small (s : SrcD) : Wd (smallV s) := wd_div _ _
theorem read_numT {a b' c : Nat} (ha : Wd a) (hb : Wd b') (hc : Wd c) : (numT [a, b', c] == noneB) = false ∧ partsV (numT [a, b', c]) = [hexB a, hexB b', hexB c] ∧ (numT [a, b', c]).length = 26 := by
  have hl : (numT [a, b', c]).length = 26 := by
    rw [numT_cons]
    show (Lib.join (hexB a :: [hexB b', hexB c]) [44]).length = 26
    rw [Lib.join_length]
    simp [Lib.lens, hexB_length]
  have hne : (numT [a, b', c] == noneB) = false := beq_eq_false_iff_ne.2 fun e => by rw [e] at hl; cases hl
  refine ⟨hne, ?_, hl⟩
  unfold partsV
  rw [hne]
  simp only [cond_false]
  rw [numT_cons]
  refine split_join (hexB a) [hexB b', hexB c] fun q hq => ?_
  simp only [List.mem_cons, List.not_mem_nil, or_false] at hq
  rcases hq with rfl | rfl | rfl
  · exact hexB_no ha.1
  · exact hexB_no hb.1
  · exact hexB_no hc.1
theorem read_ok {a b' c : Nat} (ha : Wd a) (hb : Wd b') (hc : Wd c) : (numsOk (numT [a, b', c]) && decide ((partsV (numT [a, b', c])).length = 3)) = true ∧ vecOf (numT [a, b', c]) = (a, b', c) := by
  obtain ⟨en, e, hl⟩ := read_numT ha hb hc
  constructor
  · unfold numsOk
    rw [en, e, hl, d_t (show 26 < 4294967281 by decide), d_t (show [hexB a, hexB b', hexB c].length ≤ 256 by simp), d_t (show [hexB a, hexB b', hexB c].length = 3 from rfl)]
    simp only [List.all_cons, List.all_nil, hexOk_hex ha, hexOk_hex hb, hexOk_hex hc, Bool.and_self, Bool.not_false]
  · unfold vecOf
    rw [e]
    show (hexVal (hexB a), hexVal (hexB b'), hexVal (hexB c)) = _
    rw [hexVal_hex ha.1, hexVal_hex hb.1, hexVal_hex hc.1]

/-! laws.FnVectors -/
noncomputable def c_laws_FnVectors : Ctx := mkC Tryd.prog tyT [(4, s_laws_b10Long), (5, s_spec_B10Vector), (6, s_impl_CrossOf), (7, s_impl_AddVectors), (8, s_impl_LessVectors), (9, s_impl_ScaleVector), (10, s_laws_b10VEqual), (11, s_impl_InnerOf), (12, s_laws_b10Square), (14, s_impl_LongOf), (15, s_spec_RootNumber), (13, s_spec_SameNumber), (16, s_impl_BetweenVectors), (17, s_spec_B10Any), (18, s_impl_VectorText), (19, s_impl_ReadVector), (20, s_impl_SameVector)] [] [] 117 (fun _ => none) 0
theorem w_laws_FnVectors (xs ys : List Int) (K : V → Heap → Prop) : wpFn c_laws_FnVectors Tryd.f3 (encAs [.cell tB, .cell tB] (xs, ys, ())) [] K =
  cond (decide (1048576 < List.length xs) || decide (1048576 < List.length ys))
    (K (.bool true) [])
    (cond (!sameV (addV (intsV ys 50) (subV (intsV xs 50) (intsV ys 50))) (intsV xs 50))
      (K (.bool false) [])
      (cond (!feq FloatKind.f32 (innerV (crossV (intsV xs 50) (intsV ys 50)) (intsV xs 50)) 0)
        (K (.bool false) [])
        (cond (!feq FloatKind.f32 (innerV (crossV (intsV xs 50) (intsV ys 50)) (intsV ys 50)) 0)
          (K (.bool false) [])
          (cond (!sameV (crossV (intsV xs 50) (intsV ys 50)) (scaleV (crossV (intsV ys 50) (intsV xs 50)) 3212836864))
            (K (.bool false) [])
            (cond (!sameV (scaleV (intsV xs 50) 1073741824) (addV (intsV xs 50) (intsV xs 50)))
              (K (.bool false) [])
              (cond (!feq FloatKind.f32 (innerV (intsV xs 50) (intsV xs 50)) (innerV (intsV xs 50) (intsV xs 50)))
                (K (.bool false) [])
                (cond (!longV (intsV xs 50) == rootV (innerV (intsV xs 50) (intsV xs 50)))
                  (K (.bool false) [])
                  (cond (!sameV (betweenV (intsV xs 50) (intsV ys 50) 0) (intsV xs 50))
                    (K (.bool false) [])
                    (cond (!sameV (betweenV (intsV xs 50) (intsV ys 50) 1065353216) (intsV ys 50))
                      (K (.bool false) [])
                      (cond (numsOk (numT [Prod.fst (drawnV (xs, 0, 0)), Prod.fst (Prod.snd (drawnV (xs, 0, 0))), Prod.snd (Prod.snd (drawnV (xs, 0, 0)))]) && decide (List.length (partsV (numT [Prod.fst (drawnV (xs, 0, 0)), Prod.fst (Prod.snd (drawnV (xs, 0, 0))), Prod.snd (Prod.snd (drawnV (xs, 0, 0)))])) = 3))
                        (cond (vecOf (numT [Prod.fst (drawnV (xs, 0, 0)), Prod.fst (Prod.snd (drawnV (xs, 0, 0))), Prod.snd (Prod.snd (drawnV (xs, 0, 0)))]) == drawnV (xs, 0, 0))
                          (K (.bool ((↑(List.length (numT [Prod.fst (drawnV (xs, 0, 0)), Prod.fst (Prod.snd (drawnV (xs, 0, 0))), Prod.snd (Prod.snd (drawnV (xs, 0, 0)))])) : Int) == 26)) [])
                          (K (.bool false) []))
                        (False))))))))))) := by kernel_rfl
noncomputable def s_laws_FnVectors : Sm := semT [.cell tB, .cell tB] fun x => match x with | (xs, ys, _) => .bool true
theorem ok_laws_FnVectors : FnOk Tryd.prog 3 s_laws_FnVectors := fnOk_typed (fnOk_runC (C := c_laws_FnVectors) rfl mixed (.cons ok_laws_b10Long (.cons ok_spec_B10Vector (.cons ok_impl_CrossOf (.cons ok_impl_AddVectors (.cons ok_impl_LessVectors (.cons ok_impl_ScaleVector (.cons ok_laws_b10VEqual (.cons ok_impl_InnerOf (.cons ok_laws_b10Square (.cons ok_impl_LongOf (.cons ok_spec_RootNumber (.cons ok_spec_SameNumber (.cons ok_impl_BetweenVectors (.cons ok_spec_B10Any (.cons ok_impl_VectorText (.cons ok_impl_ReadVector (.cons ok_impl_SameVector .nil))))))))))))))))) .nil .nil Tryd.func3 (by kernel_rfl)) fun (x : ((List Int) × (List Int) × Unit)) wf K h => by
  obtain ⟨xs, ys, ⟨⟩⟩ := x
  replace h : K (.bool true) [] := h
  rw [w_laws_FnVectors xs ys K]
  cases e0 : decide (1048576 < xs.length) || decide (1048576 < ys.length) with
  | true => exact h
  | false =>
    obtain ⟨x, y, z, hv⟩ := q_ints (bytes_of wf.1) (m := 50) (by decide) (by decide)
    obtain ⟨p, q, r, hw⟩ := q_ints (bytes_of wf.2.1) (m := 50) (by decide) (by decide)
    obtain ⟨l1, l2, l3, l4, l5, l6, l7, l8⟩ := vec_law hv hw
    have hy : Wd (drawnV (xs, 0, 0)).2.1 := by
      unfold drawnV
      cases pickV (xs, 0, 0) 10 == 0
      · exact wd_small _
      · exact wd_float _
    obtain ⟨m1, m2⟩ := read_ok (a := (drawnV (xs, 0, 0)).1) (b' := (drawnV (xs, 0, 0)).2.1) (c := (drawnV (xs, 0, 0)).2.2) (wd_small _) hy (wd_small _)
    have m3 := (read_numT (a := (drawnV (xs, 0, 0)).1) (b' := (drawnV (xs, 0, 0)).2.1) (c := (drawnV (xs, 0, 0)).2.2) (wd_small _) hy (wd_small _)).2.2
    rw [l1, l2, l3, l4, l5, l6, l7, l8, m1, m2, m3, show (longV (intsV xs 50) == rootV (innerV (intsV xs 50) (intsV xs 50))) = true from beq_self_eq_true _, show ((drawnV (xs, 0, 0)).1, (drawnV (xs, 0, 0)).2.1, (drawnV (xs, 0, 0)).2.2) == drawnV (xs, 0, 0) from beq_self_eq_true _]
    exact h

end Go.Proofs.YtdlglcacdgcapaaDoor
