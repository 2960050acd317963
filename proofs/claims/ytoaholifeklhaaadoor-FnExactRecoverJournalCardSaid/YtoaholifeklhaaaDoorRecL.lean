/- The law of journals that are recovered. -/
import Derived.Test.YtoaholifeklhaaaDoorRec
import Derived.Test.YtoaholifeklhaaaDoorDeep
set_option linter.unusedVariables false
set_option linter.unusedSimpArgs false
set_option maxRecDepth 100000
namespace Go.Proofs.YtoaholifeklhaaaDoor
open Go.Ev

def mdig : Nat → Nat → Str
  | 0, _ => []
  | f + 1, k => bif Nat.beq k 0 then [] else mdig f (k / 10) ++ [UInt8.ofNat (48 + k % 10)]
--B mtx Int → Str
def mtx (k : Int) : Str := bif decide (k ≤ 0) then [109, 48] else 109 :: mdig (k.toNat + 1) k.toNat

theorem mdig_fuel : ∀ (f g k : Nat), k < f → k < g → mdig f k = mdig g k
  | 0, _, _, h, _ => by omega
  | _, 0, _, _, h => by omega
  | f + 1, g + 1, k, h1, h2 => by
    simp only [mdig]
    cases e : Nat.beq k 0 with
    | true => rfl
    | false =>
      have hk : k ≠ 0 := fun e' => by subst e'; cases e
      rw [mdig_fuel f g (k / 10) (by omega) (by omega)]
theorem mdig_step (k : Nat) (h : 0 < k) : mdig (k + 1) k = mdig (k / 10 + 1) (k / 10) ++ [UInt8.ofNat (48 + k % 10)] := by
  conv => lhs; rw [mdig]
  have : Nat.beq k 0 = false := by cases k with | zero => omega | succ n => rfl
  rw [this, cond_false, mdig_fuel k (k / 10 + 1) (k / 10) (by omega) (by omega)]

/-! laws.markText -/
noncomputable def a_laws_markText : Nat → Option Ann := fun n => bif Nat.beq n 4 then some ⟨[0,3],0,false⟩ else none
noncomputable def c_laws_markText : Ctx := mkC Tryd.prog tyT [] [] [] 20 a_laws_markText 0
noncomputable def fr_laws_markText_4 (k : Int) (out : Str) : Fr := [(0, .int .i64 k), (3, .str out)]
theorem r_laws_markText_4 (k : Int) (out : Str) (Kn : Fr → Heap → Prop) (K : V → Heap → Prop) : round c_laws_markText ⟨[0,3],0,false⟩ (lb c_laws_markText 4 Tryd.f26) (fr_laws_markText_4 k out) [] Kn (lk c_laws_markText 4 Tryd.f26 [] K) =
  cond (decide (k > 0))
    (cond (Nat.blt (List.length (toU8 [IntKind.wrap IntKind.u8 (IntKind.wrap IntKind.i64 (48 + Int.tmod k 10))]) + List.length out) 9223372036854775808)
      (Kn [(0, (.int .i64 (IntKind.wrap IntKind.i64 (Int.tdiv k 10)))), (3, (.str (toU8 [IntKind.wrap IntKind.u8 (IntKind.wrap IntKind.i64 (48 + Int.tmod k 10))] ++ out)))] [])
      (False))
    (cond (Nat.blt (1 + List.length out) 9223372036854775808)
      (K (.str (Array.toList (ByteArray.data { data := #[109] }) ++ out)) [])
      (False)) := by kernel_rfl
theorem w_laws_markText (k : Int) (K : V → Heap → Prop) : wpFn c_laws_markText Tryd.f26 (encAs [.cell tI] (k, ())) [] K =
  cond (decide (k ≤ 0))
    (K (.str (Array.toList (ByteArray.data { data := #[109, 48] }))) [])
    (LoopE c_laws_markText ⟨[0, 3], 0, false⟩ (lb c_laws_markText 4 Tryd.f26) [(0, (.int .i64 (k))), (3, (.str (Array.toList (ByteArray.data { data := #[] }))))] [] (lk c_laws_markText 4 Tryd.f26 [] K)) := by kernel_rfl
noncomputable def s_laws_markText : Sm := semG [.cell tI] (fun x => match x with | (k, _) => decide (k ≤ 8388608)) fun x => match x with | (k, _) => .str (mtx k)
theorem ok_laws_markText : FnOk Tryd.prog 26 s_laws_markText := fnOk_typedG (fnOk_runC (C := c_laws_markText) rfl mixed .nil .nil .nil Tryd.func26 (by kernel_rfl)) fun (x : ((Int) × Unit)) wf hg K h => by
  obtain ⟨k, ⟨⟩⟩ := x
  replace hg : (decide (k ≤ 8388608)) = true := hg
  replace h : K (.str (mtx k)) [] := h
  rw [w_laws_markText k K]
  by_cases h0 : k ≤ 0
  · unfold mtx at h
    simp only [d_t h0, cond_true] at h ⊢
    exact h
  · have hg := of_decide_eq_true hg
    unfold mtx at h
    simp only [d_f h0, cond_false] at h ⊢
    obtain ⟨m, rfl⟩ : ∃ m : Nat, k = m := ⟨k.toNat, by omega⟩
    rw [Int.toNat_natCast] at h
    refine loop_run (σ := Nat × Str) (fun p => fr_laws_markText_4 p.1 p.2) (fun _ => []) (fun p => p.1 + p.2.length ≤ m ∧ mdig (m + 1) m = mdig (p.1 + 1) p.1 ++ p.2) (fun p => p.1) ?_ (m, []) ⟨by simp, by simp⟩
    rintro ⟨r, out⟩ ⟨hl, hd⟩ Kn hk
    simp only at hl hd hk ⊢
    rw [r_laws_markText_4 r out Kn K]
    by_cases hr : 0 < r
    · have e1 : ((r : Int)).tmod 10 = ((r % 10 : Nat) : Int) := by rw [Int.tmod_eq_emod_of_nonneg (by omega)]; omega
      have e2 : IntKind.i64.wrap (((r : Int)).tdiv 10) = ((r / 10 : Nat) : Int) := by rw [Int.tdiv_eq_ediv_of_nonneg (by omega), i64_of (by omega) (by omega)]; omega
      have e3 : IntKind.u8.wrap (IntKind.i64.wrap (48 + ((r % 10 : Nat) : Int))) = ((48 + r % 10 : Nat) : Int) := by
        rw [i64_of (by omega) (by omega), show IntKind.u8.wrap (48 + ((r % 10 : Nat) : Int)) = 48 + ((r % 10 : Nat) : Int) from wrap_of (by have : IntKind.u8.min = 0 := rfl; omega) (by have : IntKind.u8.max = 255 := rfl; omega)]
        omega
      have e4 : toU8 [((48 + r % 10 : Nat) : Int)] = [UInt8.ofNat (48 + r % 10)] := rfl
      simp only [d_t (show (r : Int) > 0 by omega), cond_true, e1, e2, e3, e4, List.length_cons, List.length_nil, blt_t (show 0 + 1 + out.length < 9223372036854775808 by omega)]
      refine hk (r / 10, [UInt8.ofNat (48 + r % 10)] ++ out) ⟨?_, ?_⟩ (by simp only; omega)
      · simp only [List.length_append, List.length_cons, List.length_nil]; omega
      · simp only
        rw [hd, mdig_step r hr, List.append_assoc]
    · have : r = 0 := by omega
      subst this
      simp only [d_f (show ¬ ((0 : Nat) : Int) > 0 by omega), cond_false, blt_t (show 1 + out.length < 9223372036854775808 by omega), cond_true]
      have : mdig (0 + 1) 0 = [] := rfl
      rw [this, List.nil_append] at hd
      rw [hd] at h
      exact h

--B mkS Int → List UInt8 → List UInt8
def mkS (k : Int) (_ : Str) : Str := mtx k
--B wS List UInt8 → Nat
def wS (_ : Str) : Nat := 1
theorem wS_pos (x : Str) : 1 ≤ wS x := Nat.le_refl _
theorem mkS_idem (k : Int) (x : Str) : mkS k (mkS k x) = mkS k x := rfl
theorem wS_mk (k : Int) (x : Str) : wS (mkS k x) = wS x := rfl
theorem sumWS (xs : List Str) : sumW wS xs = xs.length := by
  induction xs with
  | nil => rfl
  | cons x s ih => simp only [sumW, List.map_cons, List.sum_cons, List.length_cons] at *; rw [ih]; unfold wS; omega

/-! laws.markStringS -/
noncomputable def a_laws_markStringS : Nat → Option Ann := fun n => bif Nat.beq n 2 then some ⟨[0,1,5],1,false⟩ else none
noncomputable def c_laws_markStringS : Ctx := mkC Tryd.prog tyT [(26, s_laws_markText)] [] [] 20 a_laws_markStringS 1
noncomputable def fr_laws_markStringS_2 (xs : List Str) (k i : Int) : Fr := [(0, .obj 0 0), (1, .int .i64 k), (5, .int .i64 i)]
noncomputable def hp_laws_markStringS_2 (xs : List Str) (k i : Int) : Heap := [.sl 0 .str xs]
theorem r_laws_markStringS_2 (xs : List Str) (k i : Int) (Kn : Fr → Heap → Prop) (K : V → Heap → Prop) : round c_laws_markStringS ⟨[0,1,5],1,false⟩ (lb c_laws_markStringS 2 Tryd.f12) (fr_laws_markStringS_2 xs k i) (hp_laws_markStringS_2 xs k i) Kn (lkO c_laws_markStringS 2 Tryd.f12 [.box []] K) =
  cond (decide (i < (↑(List.length xs) : Int)))
    (cond (decide (k ≤ 8388608))
      (cond (decide (0 ≤ i) && Nat.blt (Int.toNat i) (List.length xs))
        ((match xs[Int.toNat i]? with
          | some x0 => Kn [(0, (.obj 0 0)), (1, (.int .i64 (IntKind.wrap IntKind.i64 (k + 1)))), (5, (.int .i64 (IntKind.wrap IntKind.i64 (i + 1))))] [(.sl 0 .str (List.set xs (Int.toNat i) (mtx k)))]
          | none => False))
        (False))
      (False))
    (K (.int .i64 (k)) [(.sl 0 .str (xs))]) := by kernel_rfl
theorem w_laws_markStringS (xs : List Str) (k : Int) (K : V → Heap → Prop) : wpFnO c_laws_markStringS Tryd.f12 (ofCells false [.obj 0 0] :: encAs [.cell tI] (k, ())) [.sl 0 .str xs] K =
  LoopE c_laws_markStringS ⟨[0, 1, 5], 1, false⟩ (lb c_laws_markStringS 2 Tryd.f12) [(0, (.obj 0 0)), (1, (.int .i64 (k))), (5, (.int .i64 0))] [(.sl 0 .str (xs))] (lkO c_laws_markStringS 2 Tryd.f12 [.box []] K) := by kernel_rfl
noncomputable def s_laws_markStringS : Sm := semIF false .str [.cell tI] (fun xs x => match x with | (k, _) => decide (0 ≤ k) && decide (k + sumW wS xs ≤ 8388608)) fun xs x => match x with | (k, _) => (.int .i64 (k + sumW wS xs), markL mkS wS k xs)
theorem ok_laws_markStringS : FnOkL Tryd.prog 12 s_laws_markStringS := fnOkO_innF (e := .str) (ag := false) (l := [.cell tI]) (gd := (fun xs x => match x with | (k, _) => decide (0 ≤ k) && decide (k + sumW wS xs ≤ 8388608))) (f := fun xs x => match x with | (k, _) => (.int .i64 (k + sumW wS xs), markL mkS wS k xs)) (fnOkO_runC (C := c_laws_markStringS) rfl mixed (.cons ok_laws_markText .nil) .nil .nil Tryd.func12 (by kernel_rfl)) rfl fun (xs : List Str) (x : ((Int) × Unit)) wf hg K h => by
  obtain ⟨k, ⟨⟩⟩ := x
  replace hg : (decide (0 ≤ k) && decide (k + sumW wS xs ≤ 8388608)) = true := hg
  replace h : K (.int .i64 (k + sumW wS xs)) [.sl 0 .str (markL mkS wS k xs)] := h
  rw [w_laws_markStringS xs k K]
  simp only [Bool.and_eq_true, decide_eq_true_eq] at hg
  obtain ⟨g1, g2⟩ := hg
  have hml := markL_len mkS wS xs k
  have hxl := len_sumW wS_pos xs
  refine loop_run (σ := Nat × Int) (fun s => fr_laws_markStringS_2 [] s.2 s.1) (fun s => hp_laws_markStringS_2 ((markL mkS wS k xs).take s.1 ++ xs.drop s.1) s.2 s.1) (fun s => s.1 ≤ xs.length ∧ s.2 = k + sumW wS (xs.take s.1)) (fun s => xs.length - s.1) ?_ (0, k) ⟨Nat.zero_le _, by simp [sumW]⟩
  rintro ⟨i, kk⟩ ⟨hi, hkk⟩ Kn hk
  simp only at hi hkk hk ⊢
  have hl : ((markL mkS wS k xs).take i ++ xs.drop i).length = xs.length := by rw [List.length_append, List.length_take, List.length_drop, hml]; omega
  rw [show fr_laws_markStringS_2 [] kk i = fr_laws_markStringS_2 ((markL mkS wS k xs).take i ++ xs.drop i) kk i from rfl, r_laws_markStringS_2 ((markL mkS wS k xs).take i ++ xs.drop i) kk i Kn K]
  by_cases hlt : i < xs.length
  · have hget := over_get (zs := markL mkS wS k xs) (xs := xs) (i := i) (by omega) hlt
    have hst := over_step (zs := markL mkS wS k xs) (xs := xs) (i := i) (by omega) hlt
    rw [markL_get mkS wS xs k i hlt, ← hkk] at hst
    have hw := sumW_take wS hlt
    have hle := sumW_le wS xs (i + 1)
    have hwx : wS (xs[i]'hlt) = 1 := rfl
    generalize hzs : (markL mkS wS k xs).take i ++ xs.drop i = zs at hl hget hst ⊢
    generalize hxe : xs[i]'hlt = x at *
    rw [i64_of (show -9223372036854775808 ≤ kk + 1 by omega) (by omega)]
    simp only [hl, List.length_set, d_lt hlt, d_0, cond_true, Int.toNat_natCast, blt_t hlt, Bool.and_self, hget, d_t (show kk ≤ 8388608 by omega)]
    rw [i64_of (show -9223372036854775808 ≤ (i : Int) + 1 by omega) (by omega)]
    have hmk : zs.set i (mtx kk) = (markL mkS wS k xs).take (i + 1) ++ xs.drop (i + 1) := by rw [← hst, mkS]
    rw [hmk]
    have := hk (i + 1, kk + wS x) ⟨hlt, by simp only; omega⟩ (by simp only; omega)
    simp only at this
    exact this
  · have : i = xs.length := by omega
    simp only [hl, d_nlt hlt, cond_false]
    rw [List.take_of_length_le (by omega), List.drop_of_length_le (by omega), List.append_nil, hkk, this, List.take_length]
    exact h

/-! laws.heldStringS -/
noncomputable def a_laws_heldStringS : Nat → Option Ann := fun n => bif Nat.beq n 2 then some ⟨[0,1,5],0,false⟩ else none
noncomputable def c_laws_heldStringS : Ctx := mkC Tryd.prog tyT [(26, s_laws_markText)] [] [] 22 a_laws_heldStringS 0
noncomputable def fr_laws_heldStringS_2 (xs : List Str) (k i : Int) : Fr := [(0, .vec .str xs), (1, .int .i64 k), (5, .int .i64 i)]
theorem r_laws_heldStringS_2 (xs : List Str) (k i : Int) (Kn : Fr → Heap → Prop) (K : V → Heap → Prop) : round c_laws_heldStringS ⟨[0,1,5],0,false⟩ (lb c_laws_heldStringS 2 Tryd.f13) (fr_laws_heldStringS_2 xs k i) [] Kn (lk c_laws_heldStringS 2 Tryd.f13 [] K) =
  cond (decide (i < (↑(List.length xs) : Int)))
    (cond (decide (0 ≤ i))
      ((match xs[Int.toNat i]? with
        | some y0 => cond (decide (k ≤ 8388608))
          (cond (!bytesEq y0 (mtx k))
            (K (.int .i64 (-1)) [])
            (Kn [(0, (.vec .str (xs))), (1, (.int .i64 (IntKind.wrap IntKind.i64 (k + 1)))), (5, (.int .i64 (IntKind.wrap IntKind.i64 (i + 1))))] []))
          (False)
        | none => False))
      (False))
    (K (.int .i64 (k)) []) := by kernel_rfl
theorem w_laws_heldStringS (xs : List Str) (k : Int) (K : V → Heap → Prop) : wpFn c_laws_heldStringS Tryd.f13 (encAs [.cell (.slice .str), .cell tI] (xs, k, ())) [] K =
  LoopE c_laws_heldStringS ⟨[0, 1, 5], 0, false⟩ (lb c_laws_heldStringS 2 Tryd.f13) [(0, (.vec .str (xs))), (1, (.int .i64 (k))), (5, (.int .i64 0))] [] (lk c_laws_heldStringS 2 Tryd.f13 [] K) := by kernel_rfl
noncomputable def s_laws_heldStringS : Sm := semG [.cell (.slice .str), .cell tI] (fun x => match x with | (xs, k, _) => decide (0 ≤ k) && (decide (k + sumW wS xs ≤ 8388608) && (xs == markL mkS wS k xs))) fun x => match x with | (xs, k, _) => .int .i64 (k + sumW wS xs)
theorem ok_laws_heldStringS : FnOk Tryd.prog 13 s_laws_heldStringS := fnOk_typedG (fnOk_runC (C := c_laws_heldStringS) rfl mixed (.cons ok_laws_markText .nil) .nil .nil Tryd.func13 (by kernel_rfl)) fun (x : ((List Str) × (Int) × Unit)) wf hg K h => by
  obtain ⟨xs, k, ⟨⟩⟩ := x
  replace hg : (decide (0 ≤ k) && (decide (k + sumW wS xs ≤ 8388608) && (xs == markL mkS wS k xs))) = true := hg
  replace h : K (.int .i64 (k + sumW wS xs)) [] := h
  rw [w_laws_heldStringS xs k K]
  simp only [Bool.and_eq_true, decide_eq_true_eq, beq_iff_eq] at hg
  obtain ⟨g1, g2, g4⟩ := hg
  have hxl := len_sumW wS_pos xs
  refine loop_run (σ := Nat × Int) (fun s => fr_laws_heldStringS_2 xs s.2 s.1) (fun s => []) (fun s => s.1 ≤ xs.length ∧ s.2 = k + sumW wS (xs.take s.1)) (fun s => xs.length - s.1) ?_ (0, k) ⟨Nat.zero_le _, by simp [sumW]⟩
  rintro ⟨i, kk⟩ ⟨hi, hkk⟩ Kn hk
  simp only at hi hkk hk ⊢
  rw [r_laws_heldStringS_2 xs kk i Kn K]
  by_cases hlt : i < xs.length
  · have hx : xs[i]'hlt = mkS kk (xs[i]'hlt) := by
      have := markL_get mkS wS xs k i hlt
      rw [hkk, ← this]
      simp only [← g4]
    have hw := sumW_take wS hlt
    have hle := sumW_le wS xs (i + 1)
    have hwx : wS (xs[i]'hlt) = 1 := rfl
    rw [i64_of (show -9223372036854775808 ≤ kk + 1 by omega) (by omega)]
    simp only [d_lt hlt, d_0, cond_true, Int.toNat_natCast, get_lt hlt, d_t (show kk ≤ 8388608 by omega)]
    generalize hxe : xs[i]'hlt = x at *
    have e4 : bytesEq x (mtx kk) = true := by rw [bytesEq, hx]; exact beq_self_eq_true _
    simp only [e4, Bool.not_true, cond_false]
    rw [i64_of (show -9223372036854775808 ≤ (i : Int) + 1 by omega) (by omega)]
    have := hk (i + 1, kk + wS x) ⟨hlt, by simp only; omega⟩ (by simp only; omega)
    simp only at this
    exact this
  · have : i = xs.length := by omega
    simp only [d_nlt hlt, cond_false]
    rw [hkk, this, List.take_length]
    exact h

theorem recGo_wL : ∀ (ls : List Str) (c : Int), (recGo ls c).1.length ≤ ls.length
  | [], _ => Nat.le_refl _
  | g :: r, c => by
    rw [recGo_cons]
    cases (cutC g 32).2.2 && (cutC g 32).1 == itoaL (checkN c (cutC g 32).2.1) with
    | false => exact Nat.zero_le _
    | true => have := recGo_wL r (checkN c (cutC g 32).2.1); simp only [cond_true, List.length_cons]; omega
theorem recR_len (t : Str) : (recR t).1.length ≤ 6000 := by
  unfold recR
  by_cases h : t.length ≤ 6000
  · rw [d_t h, cond_true]
    have h1 := recGo_wL (linesC t) 0
    have h2 := wL_len (linesC t)
    have h3 := wL_lines t.length t (Nat.le_refl _)
    omega
  · rw [d_f h]
    exact Nat.zero_le _

/-! laws.FnExactRecoverJournal -/
noncomputable def c_laws_FnExactRecoverJournal : Ctx := mkC Tryd.prog tyT [(9, s_laws_eqStringS), (13, s_laws_heldStringS)] [] [(10, s_spec_RecoverJournal_vg), (11, s_impl_RecoverJournal_vg), (12, s_laws_markStringS)] 82 (fun _ => none) 0
theorem w_laws_FnExactRecoverJournal (t : Str) (K : V → Heap → Prop) : wpFn c_laws_FnExactRecoverJournal Tryd.f4 (encAs [.cell .str] (t, ())) [] K =
  cond (decide ((↑(List.length t) : Int) > 1048576))
    (K (.bool true) [])
    (cond (Prod.fst (recR t) == Prod.fst (recR t))
      (cond ((↑(Prod.snd (recR t)) : Int) != (↑(Prod.snd (recR t)) : Int))
        (K (.bool false) [])
        (cond (decide (List.length t ≤ 6000) != decide (List.length t ≤ 6000))
          (K (.bool false) [])
          (cond ((fun xs x => decide (0 ≤ Prod.fst x) && decide (Prod.fst x + (↑(sumW wS xs) : Int) ≤ 8388608)) (Prod.fst (recR t)) (1, ()))
            (cond (decide (0 ≤ 1) && (decide (1 + (↑(sumW wS (markL mkS wS 1 (Prod.fst (recR t)))) : Int) ≤ 8388608) && markL mkS wS 1 (Prod.fst (recR t)) == markL mkS wS 1 (markL mkS wS 1 (Prod.fst (recR t)))))
              (cond (1 + (↑(sumW wS (markL mkS wS 1 (Prod.fst (recR t)))) : Int) != 1 + (↑(sumW wS (Prod.fst (recR t))) : Int))
                (K (.bool false) [])
                (cond (Prod.fst (recR t) == Prod.fst (recR t))
                  (cond ((↑(Prod.snd (recR t)) : Int) != (↑(Prod.snd (recR t)) : Int))
                    (K (.bool false) [])
                    (cond (decide (List.length t ≤ 6000) != decide (List.length t ≤ 6000))
                      (K (.bool false) [])
                      (cond (decide (0 ≤ 1) && (decide (1 + (↑(sumW wS (markL mkS wS 1 (Prod.fst (recR t)))) : Int) ≤ 8388608) && markL mkS wS 1 (Prod.fst (recR t)) == markL mkS wS 1 (markL mkS wS 1 (Prod.fst (recR t)))))
                        (cond (1 + (↑(sumW wS (markL mkS wS 1 (Prod.fst (recR t)))) : Int) != 1 + (↑(sumW wS (Prod.fst (recR t))) : Int))
                          (K (.bool false) [])
                          (K (.bool true) []))
                        (False))))
                  (False)))
              (False))
            (False))))
      (False)) := by kernel_rfl
noncomputable def s_laws_FnExactRecoverJournal : Sm := semT [.cell .str] fun x => match x with | (t, _) => .bool true
theorem ok_laws_FnExactRecoverJournal : FnOk Tryd.prog 4 s_laws_FnExactRecoverJournal := fnOk_typed (fnOk_runC (C := c_laws_FnExactRecoverJournal) rfl mixed (.cons ok_laws_eqStringS (.cons ok_laws_heldStringS .nil)) .nil (.cons ok_spec_RecoverJournal_vg (.cons ok_impl_RecoverJournal_vg (.cons ok_laws_markStringS .nil))) Tryd.func4 (by kernel_rfl)) fun (x : ((Str) × Unit)) wf K h => by
  obtain ⟨t, ⟨⟩⟩ := x
  replace h : K (.bool true) [] := h
  rw [w_laws_FnExactRecoverJournal t K]
  cases hn : decide ((t.length : Int) > 1048576) with
  | true => simp only [cond_true]; exact h
  | false =>
  simp only [cond_false]
  have hl := recR_len t
  have hs := sumWS (recR t).1
  generalize recR t = R at *
  simp only [markL_idem mkS_idem wS_mk, sumW_markL wS_mk, beq_self_eq_true, bne_self_eq_false, cond_true, cond_false,
    d_t (show (0 : Int) ≤ 1 by omega), d_t (show 1 + (sumW wS R.1 : Int) ≤ 8388608 by omega), Bool.and_self, Bool.true_and]
  exact h

end Go.Proofs.YtoaholifeklhaaaDoor
