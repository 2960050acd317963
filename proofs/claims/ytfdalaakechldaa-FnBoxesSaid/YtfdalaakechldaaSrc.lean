/- The source of bytes from which the laws draw. -/
import Derived.Test.YtfdalaakechldaaPre
set_option linter.unusedVariables false
set_option linter.unusedSimpArgs false
set_option maxRecDepth 100000
namespace Go.Proofs.Ytfdalaakechldaa
open Go.Ev

abbrev SrcD := List Int × Int × Int

/-! spec.l00From -/
noncomputable def c_spec_l00From : Ctx := mkC Try.prog tyT [] [] [] 6 (fun _ => none) 0
theorem w_spec_l00From (xs : List Int) (K : V → Heap → Prop) : wpFnO c_spec_l00From Try.f16 (encAs [.cell tB] (xs, ())) [] K =
  K (.ptr 0 0) [(.box [(.vec (.int .u8) (xs)), (.int .i64 0), (.int .u64 0)])] := by kernel_rfl
noncomputable def s_spec_l00From : Sm := semN tSrc [.cell tB] fun x => match x with | (xs, _) => (xs, 0, 0)
theorem ok_spec_l00From : FnOkL Try.prog 16 s_spec_l00From := fnOkO_new (fnOkO_runC (C := c_spec_l00From) rfl mixed .nil .nil .nil Try.func16 (by kernel_rfl)) fun (x : ((List Int) × Unit)) wf K h => by
  obtain ⟨xs, ⟨⟩⟩ := x
  replace h : K (.ptr 0 0) [.box (enc tSrc ((xs, 0, 0)))] := h
  rw [w_spec_l00From xs K]
  exact h

def srcIn (L : Nat) (s : SrcD) : Bool := decide (0 ≤ s.2.1) && decide (s.2.1 ≤ (L : Int) * 1152921504606846976)
def byteOf (s : SrcD) : Int := bif decide (s.2.1 < (s.1.length : Int)) then (s.1[s.2.1.toNat]?).getD 0 else 0
def seedOf (s : SrcD) : Int := IntKind.u64.wrap (IntKind.u64.wrap (IntKind.u64.wrap (s.2.2 * 6364136223846793005) + IntKind.u64.wrap (byteOf s)) + 1442695040888963407)
--B nextS SrcD → SrcD
def nextS (s : SrcD) : SrcD := (s.1, s.2.1 + 1, seedOf s)
def nextV (s : SrcD) : Int := bif decide (s.2.1 + 1 ≤ (s.1.length : Int)) then byteOf s
  else IntKind.i64.wrap (IntKind.u64.wrap ((BitVec.toNat (BitVec.ofInt (IntKind.bits IntKind.u64) (Int.fdiv (seedOf s) (2 ^ min (Int.toNat 40) (IntKind.bits IntKind.u64))) &&& BitVec.ofInt (IntKind.bits IntKind.u64) 255)) : Int))
theorem srcIn_iff {L : Nat} {s : SrcD} : srcIn L s = true ↔ 0 ≤ s.2.1 ∧ s.2.1 ≤ (L : Int) * 1152921504606846976 := by
  simp [srcIn]
def bytes (xs : List Int) : Prop := ∀ b ∈ xs, 0 ≤ b ∧ b ≤ 255
theorem bytes_of {xs : List Int} (h : Wf tB xs) : bytes xs := fun b hb => h.2 b hb
theorem byteOf_range {s : SrcD} (h : bytes s.1) : 0 ≤ byteOf s ∧ byteOf s ≤ 255 := by
  unfold byteOf
  cases decide (s.2.1 < (s.1.length : Int)) with
  | false => simp
  | true =>
    simp only [cond_true]
    cases e : s.1[s.2.1.toNat]? with
    | none => simp
    | some b => exact h b (List.mem_of_getElem? e)

/-! (*spec.l00Src).next -/
noncomputable def c_spec_l00Src_next : Ctx := mkC Try.prog tyT [] [] [] 62 (fun _ => none) 1
theorem w_spec_l00Src_next (s : SrcD) (K : V → Heap → Prop) : wpFnO c_spec_l00Src_next Try.f33 (.ptr 0 0 :: encAs [] ()) [.box (enc tSrc s)] K =
  cond (decide (Prod.fst (Prod.snd s) < (↑(List.length (Prod.fst s)) : Int)))
    (cond (decide (0 ≤ Prod.fst (Prod.snd s)))
      ((match (Prod.fst s)[Int.toNat (Prod.fst (Prod.snd s))]? with
        | some y0 => cond (decide (IntKind.wrap IntKind.i64 (Prod.fst (Prod.snd s) + 1) ≤ (↑(List.length (Prod.fst s)) : Int)))
          (K (.int .i64 (IntKind.wrap IntKind.i64 y0)) [(.box [(.vec (.int .u8) (Prod.fst s)), (.int .i64 (IntKind.wrap IntKind.i64 (Prod.fst (Prod.snd s) + 1))), (.int .u64 (IntKind.wrap IntKind.u64 (IntKind.wrap IntKind.u64 (IntKind.wrap IntKind.u64 (Prod.snd (Prod.snd s) * 6364136223846793005) + IntKind.wrap IntKind.u64 (IntKind.wrap IntKind.i64 y0)) + 1442695040888963407)))])])
          (K (.int .i64 (IntKind.wrap IntKind.i64 (IntKind.wrap IntKind.u64 (↑(BitVec.toNat (BitVec.ofInt 64 (Int.fdiv (IntKind.wrap IntKind.u64 (IntKind.wrap IntKind.u64 (IntKind.wrap IntKind.u64 (Prod.snd (Prod.snd s) * 6364136223846793005) + IntKind.wrap IntKind.u64 (IntKind.wrap IntKind.i64 y0)) + 1442695040888963407)) (2 ^ 40)) &&& BitVec.ofInt 64 255)) : Int)))) [(.box [(.vec (.int .u8) (Prod.fst s)), (.int .i64 (IntKind.wrap IntKind.i64 (Prod.fst (Prod.snd s) + 1))), (.int .u64 (IntKind.wrap IntKind.u64 (IntKind.wrap IntKind.u64 (IntKind.wrap IntKind.u64 (Prod.snd (Prod.snd s) * 6364136223846793005) + IntKind.wrap IntKind.u64 (IntKind.wrap IntKind.i64 y0)) + 1442695040888963407)))])])
        | none => False))
      (False))
    (cond (decide (IntKind.wrap IntKind.i64 (Prod.fst (Prod.snd s) + 1) ≤ (↑(List.length (Prod.fst s)) : Int)))
      (K (.int .i64 0) [(.box [(.vec (.int .u8) (Prod.fst s)), (.int .i64 (IntKind.wrap IntKind.i64 (Prod.fst (Prod.snd s) + 1))), (.int .u64 (IntKind.wrap IntKind.u64 (IntKind.wrap IntKind.u64 (IntKind.wrap IntKind.u64 (Prod.snd (Prod.snd s) * 6364136223846793005) + IntKind.wrap IntKind.u64 0) + 1442695040888963407)))])])
      (K (.int .i64 (IntKind.wrap IntKind.i64 (IntKind.wrap IntKind.u64 (↑(BitVec.toNat (BitVec.ofInt 64 (Int.fdiv (IntKind.wrap IntKind.u64 (IntKind.wrap IntKind.u64 (IntKind.wrap IntKind.u64 (Prod.snd (Prod.snd s) * 6364136223846793005) + IntKind.wrap IntKind.u64 0) + 1442695040888963407)) (2 ^ 40)) &&& BitVec.ofInt 64 255)) : Int)))) [(.box [(.vec (.int .u8) (Prod.fst s)), (.int .i64 (IntKind.wrap IntKind.i64 (Prod.fst (Prod.snd s) + 1))), (.int .u64 (IntKind.wrap IntKind.u64 (IntKind.wrap IntKind.u64 (IntKind.wrap IntKind.u64 (Prod.snd (Prod.snd s) * 6364136223846793005) + IntKind.wrap IntKind.u64 0) + 1442695040888963407)))])])) := by kernel_rfl
noncomputable def s_spec_l00Src_next : Sm := semP tSrc [] (fun s x => match x with | _ => srcIn 7 s) fun s x => match x with | _ => (.int .i64 (nextV s), nextS s)
theorem ok_spec_l00Src_next : FnOkL Try.prog 33 s_spec_l00Src_next := fnOkO_box (fnOkO_runC (C := c_spec_l00Src_next) rfl mixed .nil .nil .nil Try.func33 (by kernel_rfl)) fun (s : SrcD) (x : Unit) ws wf hg K h => by
  obtain ⟨⟩ := x
  replace hg : (srcIn 7 s) = true := hg
  replace h : K (.int .i64 (nextV s)) [.box (enc tSrc (nextS s))] := h
  rw [w_spec_l00Src_next s  K]
  rw [srcIn_iff] at hg
  have hb : bytes s.1 := bytes_of ws.1
  have h64 : IntKind.i64.wrap (s.2.1 + 1) = s.2.1 + 1 := i64_of (by omega) (by omega)
  have h0 : decide (0 ≤ s.2.1) = true := decide_eq_true hg.1
  have hbr := byteOf_range hb
  have h1 : IntKind.i64.wrap (byteOf s) = byteOf s := i64_of (by omega) (by omega)
  rw [h64, h0]
  simp only [cond_true]
  obtain ⟨xs, at_, sd⟩ := s
  simp only [byteOf, nextS, nextV, seedOf, enc] at h h1 hg ⊢
  by_cases hlt : at_ < (xs.length : Int)
  · have e1 : decide (at_ < (xs.length : Int)) = true := decide_eq_true hlt
    simp only [e1, cond_true] at h h1 ⊢
    have hl : at_.toNat < xs.length := by omega
    have hx : xs[at_.toNat]? = some (xs[at_.toNat]'hl) := List.getElem?_eq_getElem hl
    simp only [hx, Option.getD_some] at h h1 ⊢
    simp only [h1]
    cases e : decide (at_ + 1 ≤ (xs.length : Int)) <;> simp only [e, cond_true, cond_false] at h ⊢ <;> exact h
  · have e1 : decide (at_ < (xs.length : Int)) = false := decide_eq_false hlt
    simp only [e1, cond_false] at h ⊢
    cases e : decide (at_ + 1 ≤ (xs.length : Int)) <;> simp only [e, cond_true, cond_false] at h ⊢ <;> exact h

theorem bv255 (n : Nat) : (BitVec.toNat (BitVec.ofNat 64 n &&& BitVec.ofNat 64 255)) ≤ 255 := by
  rw [BitVec.toNat_and]
  refine Nat.le_trans Nat.and_le_right ?_
  simp
theorem nextV_range {s : SrcD} (h : bytes s.1) : 0 ≤ nextV s ∧ nextV s ≤ 255 := by
  unfold nextV
  cases decide (s.2.1 + 1 ≤ (s.1.length : Int)) with
  | true => exact byteOf_range h
  | false =>
    simp only [cond_false]
    have key : BitVec.toNat (BitVec.ofInt (IntKind.bits IntKind.u64) (Int.fdiv (seedOf s) (2 ^ min (Int.toNat 40) (IntKind.bits IntKind.u64))) &&& BitVec.ofInt (IntKind.bits IntKind.u64) 255) ≤ 255 := by
      rw [BitVec.toNat_and]
      refine Nat.le_trans Nat.and_le_right ?_
      decide
    generalize BitVec.toNat (BitVec.ofInt (IntKind.bits IntKind.u64) (Int.fdiv (seedOf s) (2 ^ min (Int.toNat 40) (IntKind.bits IntKind.u64))) &&& BitVec.ofInt (IntKind.bits IntKind.u64) 255) = n at key
    have e3 : IntKind.u64.wrap (n : Int) = n := wrap_of (by have : IntKind.u64.min = 0 := rfl; omega) (by have : IntKind.u64.max = 18446744073709551615 := rfl; omega)
    rw [e3, i64_of (by omega) (by omega)]
    omega

/-! a source of which at most L times 2^60 draws were made -/
structure SrcAt (L : Nat) (s : SrcD) : Prop where
  b : bytes s.1
  lo : 0 ≤ s.2.1
  hi : s.2.1 ≤ (L : Int) * 1152921504606846976
theorem SrcAt.ok {L : Nat} {s : SrcD} (h : SrcAt L s) : srcIn L s = true := srcIn_iff.2 ⟨h.lo, h.hi⟩
theorem SrcAt.of {L : Nat} {s : SrcD} (hb : bytes s.1) (h : srcIn L s = true) : SrcAt L s := ⟨hb, (srcIn_iff.1 h).1, (srcIn_iff.1 h).2⟩

/-- A draw of one number below n. -/
def pickV (s : SrcD) (n : Int) : Int := bif decide (n ≤ 1) then 0 else bif decide (200 < n) then (nextV s * 256 + nextV (nextS s)).tmod n else (nextV s).tmod n
--B pickS SrcD → Int → SrcD
def pickS (s : SrcD) (n : Int) : SrcD := bif decide (n ≤ 1) then s else bif decide (200 < n) then nextS (nextS s) else nextS s
theorem pickS_1 (s : SrcD) (n : Int) : (pickS s n).1 = s.1 := by
  unfold pickS
  cases decide (n ≤ 1) <;> cases decide (200 < n) <;> rfl
theorem pickS_at (s : SrcD) (n : Int) : s.2.1 ≤ (pickS s n).2.1 ∧ (pickS s n).2.1 ≤ s.2.1 + 2 := by
  unfold pickS nextS
  cases decide (n ≤ 1) <;> cases decide (200 < n) <;> simp only [cond_true, cond_false] <;> omega
theorem pickV_range {s : SrcD} (h : bytes s.1) {n : Int} (hn : 1 ≤ n) : 0 ≤ pickV s n ∧ pickV s n < n := by
  have h1 := nextV_range h
  have h2 : 0 ≤ nextV (nextS s) ∧ nextV (nextS s) ≤ 255 := nextV_range (s := nextS s) h
  unfold pickV
  by_cases e1 : n ≤ 1
  · rw [decide_eq_true e1]; simp only [cond_true]; omega
  · rw [decide_eq_false e1]
    by_cases e2 : 200 < n
    · rw [decide_eq_true e2]
      simp only [cond_true, cond_false]
      exact ⟨Int.tmod_nonneg _ (by omega), Int.tmod_lt_of_pos _ (by omega)⟩
    · rw [decide_eq_false e2]
      simp only [cond_false]
      exact ⟨Int.tmod_nonneg _ (by omega), Int.tmod_lt_of_pos _ (by omega)⟩

/-! (*spec.l00Src).pick -/
noncomputable def c_spec_l00Src_pick : Ctx := mkC Try.prog tyT [] [] [(33, s_spec_l00Src_next)] 20 (fun _ => none) 1
theorem w_spec_l00Src_pick (s : SrcD) (n : Int) (K : V → Heap → Prop) : wpFnO c_spec_l00Src_pick Try.f18 (.ptr 0 0 :: encAs [.cell (.int .i64)] (n, ())) [.box (enc tSrc s)] K =
  cond (decide (n ≤ 1))
    (K (.int .i64 0) [(.box [(.vec (.int .u8) (Prod.fst s)), (.int .i64 (Prod.fst (Prod.snd s))), (.int .u64 (Prod.snd (Prod.snd s)))])])
    (cond (srcIn 7 s)
      (cond (decide (n > 200))
        (cond (srcIn 7 (nextS s))
          (cond (n == 0)
            (False)
            (K (.int .i64 (Int.tmod (IntKind.wrap IntKind.i64 (IntKind.wrap IntKind.i64 (nextV s * 256) + nextV (nextS s))) n)) [(.box [(.vec (.int .u8) (Prod.fst (nextS (nextS s)))), (.int .i64 (Prod.fst (Prod.snd (nextS (nextS s))))), (.int .u64 (Prod.snd (Prod.snd (nextS (nextS s)))))])]))
          (False))
        (cond (n == 0)
          (False)
          (K (.int .i64 (Int.tmod (nextV s) n)) [(.box [(.vec (.int .u8) (Prod.fst (nextS s))), (.int .i64 (Prod.fst (Prod.snd (nextS s)))), (.int .u64 (Prod.snd (Prod.snd (nextS s))))])])))
      (False)) := by kernel_rfl
noncomputable def s_spec_l00Src_pick : Sm := semP tSrc [.cell (.int .i64)] (fun s x => match x with | (n, _) => srcIn 6 s) fun s x => match x with | (n, _) => (.int .i64 (pickV s n), pickS s n)
theorem ok_spec_l00Src_pick : FnOkL Try.prog 18 s_spec_l00Src_pick := fnOkO_box (fnOkO_runC (C := c_spec_l00Src_pick) rfl mixed .nil .nil (.cons ok_spec_l00Src_next .nil) Try.func18 (by kernel_rfl)) fun (s : SrcD) (x : ((Int) × Unit)) ws wf hg K h => by
  obtain ⟨n, ⟨⟩⟩ := x
  replace hg : (srcIn 6 s) = true := hg
  replace h : K (.int .i64 (pickV s n)) [.box (enc tSrc (pickS s n))] := h
  rw [w_spec_l00Src_pick s n K]
  rw [srcIn_iff] at hg
  have hb : bytes s.1 := bytes_of ws.1
  have g7 : srcIn 7 s = true := srcIn_iff.2 (by omega)
  have g7' : srcIn 7 (nextS s) = true := srcIn_iff.2 (by simp only [nextS]; omega)
  have h1 := nextV_range hb
  have h2 : 0 ≤ nextV (nextS s) ∧ nextV (nextS s) ≤ 255 := nextV_range (s := nextS s) hb
  unfold pickV pickS at h
  by_cases e1 : n ≤ 1
  · simp only [decide_eq_true e1, cond_true] at h ⊢
    exact h
  · have e3 : (n == 0) = false := beq_eq_false_iff_ne.2 (by omega)
    simp only [decide_eq_false e1, cond_false, g7, g7', cond_true, e3] at h ⊢
    by_cases e2 : 200 < n
    · have e2' : n > 200 := e2
      simp only [decide_eq_true e2, cond_true] at h ⊢
      rw [i64_of (n := nextV s * 256) (by omega) (by omega), i64_of (by omega) (by omega)]
      exact h
    · have e2' : ¬ n > 200 := e2
      simp only [decide_eq_false e2, cond_false] at h ⊢
      exact h



end Go.Proofs.Ytfdalaakechldaa
