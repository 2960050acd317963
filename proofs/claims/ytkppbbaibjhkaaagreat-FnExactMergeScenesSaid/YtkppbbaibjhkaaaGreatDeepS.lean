/- Scenes that one owns: made, marked, and found marked. -/
import Derived.Test.YtkppbbaibjhkaaaGreatDeepT
set_option linter.unusedVariables false
set_option linter.unusedSimpArgs false
set_option maxRecDepth 100000
namespace Go.Proofs.YtkppbbaibjhkaaaGreat
open Go.Ev

theorem cond_intro {b : Bool} {P Q : Prop} (h : b = true) (hp : P) : cond b P Q := by rw [h]; exact hp
def mdig : Nat → Nat → Str
  | 0, _ => []
  | f + 1, k => bif Nat.beq k 0 then [] else mdig f (k / 10) ++ [UInt8.ofNat (48 + k % 10)]
--B mtx Int → Str
def mtx (k : Int) : Str := bif decide (k ≤ 0) then [109, 48] else 109 :: mdig (k.toNat + 1) k.toNat

theorem mdig_fuel : ∀ (f g k : Nat), k < f → k < g → mdig f k = mdig g k
  | 0, _, _, h, _ => by omega
  | _, 0, _, _, h => by omega
  | f + 1, g + 1, k, h1, h2 => by
    simp only [mdig]
    cases e : Nat.beq k 0 with
    | true => rfl
    | false =>
      have hk : k ≠ 0 := fun e' => by subst e'; cases e
      rw [mdig_fuel f g (k / 10) (by omega) (by omega)]
theorem mdig_step (k : Nat) (h : 0 < k) : mdig (k + 1) k = mdig (k / 10 + 1) (k / 10) ++ [UInt8.ofNat (48 + k % 10)] := by
  conv => lhs; rw [mdig]
  have : Nat.beq k 0 = false := by cases k with | zero => omega | succ n => rfl
  rw [this, cond_false, mdig_fuel k (k / 10 + 1) (k / 10) (by omega) (by omega)]

/-! laws.markText -/
noncomputable def a_laws_markText : Nat → Option Ann := fun n => bif Nat.beq n 4 then some ⟨[0,3],0,false⟩ else none
noncomputable def c_laws_markText : Ctx := mkC Tryz.prog tyT [] [] [] 20 a_laws_markText 0
noncomputable def fr_laws_markText_4 (k : Int) (out : Str) : Fr := [(0, .int .i64 k), (3, .str out)]
theorem r_laws_markText_4 (k : Int) (out : Str) (Kn : Fr → Heap → Prop) (K : V → Heap → Prop) : round c_laws_markText ⟨[0,3],0,false⟩ (lb c_laws_markText 4 Tryz.f57) (fr_laws_markText_4 k out) [] Kn (lk c_laws_markText 4 Tryz.f57 [] K) =
  cond (decide (k > 0))
    (cond (Nat.blt (List.length (toU8 [IntKind.wrap IntKind.u8 (IntKind.wrap IntKind.i64 (48 + Int.tmod k 10))]) + List.length out) 9223372036854775808)
      (Kn [(0, (.int .i64 (IntKind.wrap IntKind.i64 (Int.tdiv k 10)))), (3, (.str (toU8 [IntKind.wrap IntKind.u8 (IntKind.wrap IntKind.i64 (48 + Int.tmod k 10))] ++ out)))] [])
      (False))
    (cond (Nat.blt (1 + List.length out) 9223372036854775808)
      (K (.str (Array.toList (ByteArray.data { data := #[109] }) ++ out)) [])
      (False)) := by kernel_rfl
theorem w_laws_markText (k : Int) (K : V → Heap → Prop) : wpFn c_laws_markText Tryz.f57 (encAs [.cell tI] (k, ())) [] K =
  cond (decide (k ≤ 0))
    (K (.str (Array.toList (ByteArray.data { data := #[109, 48] }))) [])
    (LoopE c_laws_markText ⟨[0, 3], 0, false⟩ (lb c_laws_markText 4 Tryz.f57) [(0, (.int .i64 (k))), (3, (.str (Array.toList (ByteArray.data { data := #[] }))))] [] (lk c_laws_markText 4 Tryz.f57 [] K)) := by kernel_rfl
noncomputable def s_laws_markText : Sm := semG [.cell tI] (fun x => match x with | (k, _) => decide (k ≤ 8388608)) fun x => match x with | (k, _) => .str (mtx k)
theorem ok_laws_markText : FnOk Tryz.prog 57 s_laws_markText := fnOk_typedG (fnOk_runC (C := c_laws_markText) rfl mixed .nil .nil .nil Tryz.func57 (by kernel_rfl)) fun (x : ((Int) × Unit)) wf hg K h => by
  obtain ⟨k, ⟨⟩⟩ := x
  replace hg : (decide (k ≤ 8388608)) = true := hg
  replace h : K (.str (mtx k)) [] := h
  rw [w_laws_markText k K]
  by_cases h0 : k ≤ 0
  · unfold mtx at h
    simp only [d_t h0, cond_true] at h ⊢
    exact h
  · have hg := of_decide_eq_true hg
    unfold mtx at h
    simp only [d_f h0, cond_false] at h ⊢
    obtain ⟨m, rfl⟩ : ∃ m : Nat, k = m := ⟨k.toNat, by omega⟩
    rw [Int.toNat_natCast] at h
    refine loop_run (σ := Nat × Str) (fun p => fr_laws_markText_4 p.1 p.2) (fun _ => []) (fun p => p.1 + p.2.length ≤ m ∧ mdig (m + 1) m = mdig (p.1 + 1) p.1 ++ p.2) (fun p => p.1) ?_ (m, []) ⟨by simp, by simp⟩
    rintro ⟨r, out⟩ ⟨hl, hd⟩ Kn hk
    simp only at hl hd hk ⊢
    rw [r_laws_markText_4 r out Kn K]
    by_cases hr : 0 < r
    · have e1 : ((r : Int)).tmod 10 = ((r % 10 : Nat) : Int) := by rw [Int.tmod_eq_emod_of_nonneg (by omega)]; omega
      have e2 : IntKind.i64.wrap (((r : Int)).tdiv 10) = ((r / 10 : Nat) : Int) := by rw [Int.tdiv_eq_ediv_of_nonneg (by omega), i64_of (by omega) (by omega)]; omega
      have e3 : IntKind.u8.wrap (IntKind.i64.wrap (48 + ((r % 10 : Nat) : Int))) = ((48 + r % 10 : Nat) : Int) := by
        rw [i64_of (by omega) (by omega), show IntKind.u8.wrap (48 + ((r % 10 : Nat) : Int)) = 48 + ((r % 10 : Nat) : Int) from wrap_of (by have : IntKind.u8.min = 0 := rfl; omega) (by have : IntKind.u8.max = 255 := rfl; omega)]
        omega
      have e4 : toU8 [((48 + r % 10 : Nat) : Int)] = [UInt8.ofNat (48 + r % 10)] := rfl
      simp only [d_t (show (r : Int) > 0 by omega), cond_true, e1, e2, e3, e4, List.length_cons, List.length_nil, blt_t (show 0 + 1 + out.length < 9223372036854775808 by omega)]
      refine hk (r / 10, [UInt8.ofNat (48 + r % 10)] ++ out) ⟨?_, ?_⟩ (by simp only; omega)
      · simp only [List.length_append, List.length_cons, List.length_nil]; omega
      · simp only
        rw [hd, mdig_step r hr, List.append_assoc]
    · have : r = 0 := by omega
      subst this
      simp only [d_f (show ¬ ((0 : Nat) : Int) > 0 by omega), cond_false, blt_t (show 1 + out.length < 9223372036854775808 by omega), cond_true]
      have : mdig (0 + 1) 0 = [] := rfl
      rw [this, List.nil_append] at hd
      rw [hd] at h
      exact h

--B mkT Int → ThingD → ThingD
def mkT (k : Int) (x : ThingD) : ThingD := (mtx k, markL mkN wN (k + 1) x.2.1, markL mkK wK (k + 1 + sumW wN x.2.1) x.2.2)
--B wT ThingD → Nat
def wT (x : ThingD) : Nat := 1 + sumW wN x.2.1 + sumW wK x.2.2
theorem wT_pos (x : ThingD) : 1 ≤ wT x := by unfold wT; omega
theorem putT1 (x : ThingD) (ys : ShapeD) : putAt tT x 1 tN ys = (x.1, ys, x.2.2) := rfl
theorem putT2 (x : ThingD) (ys : List KeyD) : putAt tT x 2 tK ys = (x.1, x.2.1, ys) := rfl

/-! laws.toThingS -/
noncomputable def a_laws_toThingS_vg : Nat → Option Ann := fun n => bif Nat.beq n 3 then some ⟨[0,3,4],1,false⟩ else none
noncomputable def c_laws_toThingS_vg : Ctx := mkC Tryz.prog tyT [] [] [(9, s_laws_toThing_vg)] 23 a_laws_toThingS_vg 0 false [] true
noncomputable def gp_laws_toThingS_vg : List (List (Option Ty)) := List.map giveR [.cell (.deep tT)]
noncomputable def fr_laws_toThingS_vg_3 (xs ys : List ThingD) (i : Int) : Fr := [(0, .vec tT xs), (3, .dob 0 0), (4, .int .i64 i)]
noncomputable def hp_laws_toThingS_vg_3 (xs ys : List ThingD) (i : Int) : Heap := [.dp 0 0 tT ys]
theorem r_laws_toThingS_vg_3 (xs ys : List ThingD) (i : Int) (Kn : Fr → Heap → Prop) (K : V → Heap → Prop) : round c_laws_toThingS_vg ⟨[0,3,4],1,false⟩ (lb c_laws_toThingS_vg 3 Tryz.f25) (fr_laws_toThingS_vg_3 xs ys i) (hp_laws_toThingS_vg_3 xs ys i) Kn (lkG gp_laws_toThingS_vg c_laws_toThingS_vg 3 Tryz.f25 [] K) =
  cond (decide (i < (↑(List.length xs) : Int)))
    (cond (decide (0 ≤ i))
      ((match xs[Int.toNat i]? with
        | some y0 => cond (fitT y0)
          (cond (decide (0 ≤ i) && Nat.blt (Int.toNat i) (List.length ys))
            ((match ys[Int.toNat i]? with
              | some x1 => Kn [(0, (.vec tT (xs))), (3, (.dob 0 0)), (4, (.int .i64 (IntKind.wrap IntKind.i64 (i + 1))))] [(.dp 0 0 tT (List.set ys (Int.toNat i) y0))]
              | none => False))
            (False))
          (False)
        | none => False))
      (False))
    (K (.dob 0 0) [(.dp 0 0 tT (ys))]) := by kernel_rfl
theorem w_laws_toThingS_vg (xs : List ThingD) (K : V → Heap → Prop) : wpFnG gp_laws_toThingS_vg c_laws_toThingS_vg Tryz.f25 (encAs [.cell (.slice tT)] (xs, ())) [] K =
  cond (decide (0 ≤ (↑(List.length xs) : Int)) && (decide ((↑(List.length xs) : Int) ≤ (↑(List.length xs) : Int)) && decide ((↑64 : Int) * (↑(List.length xs) : Int) ≤ 281474976710656)))
    (LoopE c_laws_toThingS_vg ⟨[0, 3, 4], 1, false⟩ (lb c_laws_toThingS_vg 3 Tryz.f25) [(0, (.vec tT (xs))), (3, (.dob 0 0)), (4, (.int .i64 0))] [(.dp 0 0 tT (List.replicate (Int.toNat (↑(List.length xs) : Int)) (Array.toList (ByteArray.data { data := #[] }), [], [])))] (lkG gp_laws_toThingS_vg c_laws_toThingS_vg 3 Tryz.f25 [] K))
    (False) := by kernel_rfl
noncomputable def s_laws_toThingS_vg : Sm := semV [.cell (.slice tT)] [.cell (.deep tT)] (fun x => match x with | (xs, _) => decide (xs.length ≤ 1048576) && xs.all fitT) fun x => match x with | (xs, _) => (xs, ())
theorem ok_laws_toThingS_vg : FnOkL Tryz.prog 25 s_laws_toThingS_vg := fnOkO_give (fnOkO_runG (C := c_laws_toThingS_vg) gp_laws_toThingS_vg rfl mixed .nil .nil (.cons ok_laws_toThing_vg .nil) Tryz.func25 (by kernel_rfl)) rfl fun (x : ((List ThingD) × Unit)) wf hg K h => by
  obtain ⟨xs, ⟨⟩⟩ := x
  replace hg : (decide (xs.length ≤ 1048576) && xs.all fitT) = true := hg
  replace h : K (tup (valRs [.cell (.deep tT)] ((xs, ())) 0)) (thRs [.cell (.deep tT)] ((xs, ()))) := h
  rw [w_laws_toThingS_vg xs K]
  simp only [Bool.and_eq_true, decide_eq_true_eq] at hg
  obtain ⟨g1, g2⟩ := hg
  have g3 : (decide (0 ≤ (xs.length : Int)) && (decide ((xs.length : Int) ≤ (xs.length : Int)) && decide ((64 : Int) * (xs.length : Int) ≤ 281474976710656))) = true := by
    simp only [Bool.and_eq_true, decide_eq_true_eq]; omega
  rw [g3, cond_true]
  refine loop_run (σ := Nat × List ThingD) (fun s => fr_laws_toThingS_vg_3 xs [] s.1) (fun s => hp_laws_toThingS_vg_3 xs (xs.take s.1 ++ s.2.drop s.1) s.1) (fun s => s.1 ≤ xs.length ∧ s.2.length = xs.length) (fun s => xs.length - s.1) ?_ (0, List.replicate (Int.toNat (xs.length : Int)) ([], [], [])) ⟨Nat.zero_le _, by simp⟩
  rintro ⟨i, zs⟩ ⟨hi, hzs⟩ Kn hk
  simp only at hi hzs hk ⊢
  have hl : (xs.take i ++ zs.drop i).length = xs.length := by rw [List.length_append, List.length_take, List.length_drop]; omega
  rw [show fr_laws_toThingS_vg_3 xs [] i = fr_laws_toThingS_vg_3 xs (xs.take i ++ zs.drop i) i from rfl, r_laws_toThingS_vg_3 xs (xs.take i ++ zs.drop i) i Kn K]
  by_cases hlt : i < xs.length
  · have hlt' : i < (xs.take i ++ zs.drop i).length := by omega
    have hf : fitT (xs[i]'hlt) = true := List.all_eq_true.1 g2 _ (List.getElem_mem hlt)
    simp only [d_lt hlt, d_0, cond_true, Int.toNat_natCast, hl, blt_t hlt, get_lt hlt', get_lt hlt, hf, Bool.and_self]
    rw [i64_of (by omega) (by omega), over_step hlt (by omega)]
    exact hk (i + 1, zs) ⟨hlt, hzs⟩ (by simp only; omega)
  · have : i = xs.length := by omega
    subst this
    simp only [d_nlt hlt, cond_false]
    rw [List.take_of_length_le (Nat.le_refl _), List.drop_of_length_le (by omega), List.append_nil]
    exact h

/-! laws.toScene -/
noncomputable def c_laws_toScene_vg : Ctx := mkC Tryz.prog tyT [] [] [(25, s_laws_toThingS_vg)] 9 (fun _ => none) 0
noncomputable def gp_laws_toScene_vg : List (List (Option Ty)) := List.map giveR [.agg [.deep tT]]
theorem w_laws_toScene_vg (s : List ThingD) (K : V → Heap → Prop) : wpFnG gp_laws_toScene_vg c_laws_toScene_vg Tryz.f8 (encAs [.agg (.slice tT)] (s, ())) [] K =
  cond (decide (List.length s ≤ 1048576) && List.all s fitT)
    (K (.agg [(.dob 0 0)]) [(.dp 0 0 tT (s))])
    (False) := by kernel_rfl
noncomputable def s_laws_toScene_vg : Sm := semV [.agg (.slice tT)] [.agg [.deep tT]] (fun x => match x with | (s, _) => decide (s.length ≤ 1048576) && s.all fitT) fun x => match x with | (s, _) => ((s, ()), ())
theorem ok_laws_toScene_vg : FnOkL Tryz.prog 8 s_laws_toScene_vg := fnOkO_give (fnOkO_runG (C := c_laws_toScene_vg) gp_laws_toScene_vg rfl mixed .nil .nil (.cons ok_laws_toThingS_vg .nil) Tryz.func8 (by kernel_rfl)) rfl fun (x : ((List ThingD) × Unit)) wf hg K h => by
  obtain ⟨s, ⟨⟩⟩ := x
  replace hg : (decide (s.length ≤ 1048576) && s.all fitT) = true := hg
  replace h : K (tup (valRs [.agg [.deep tT]] (((s, ()), ())) 0)) (thRs [.agg [.deep tT]] (((s, ()), ()))) := h
  rw [w_laws_toScene_vg s K]
  rw [hg]
  exact h

/-! laws.markThingS -/
noncomputable def a_laws_markThingS : Nat → Option Ann := fun n => bif Nat.beq n 2 then some ⟨[0,1,5],1,false⟩ else none
noncomputable def c_laws_markThingS : Ctx := mkC Tryz.prog tyT [(57, s_laws_markText)] [] [(58, s_laws_markNodeS), (38, s_laws_markKeyS)] 36 a_laws_markThingS 1
noncomputable def fr_laws_markThingS_2 (xs : List ThingD) (k i : Int) : Fr := [(0, .dob 0 0), (1, .int .i64 k), (5, .int .i64 i)]
noncomputable def hp_laws_markThingS_2 (xs : List ThingD) (k i : Int) : Heap := [.dp 0 0 tT xs]
theorem r_laws_markThingS_2 (xs : List ThingD) (k i : Int) (Kn : Fr → Heap → Prop) (K : V → Heap → Prop) : round c_laws_markThingS ⟨[0,1,5],1,false⟩ (lb c_laws_markThingS 2 Tryz.f36) (fr_laws_markThingS_2 xs k i) (hp_laws_markThingS_2 xs k i) Kn (lkO c_laws_markThingS 2 Tryz.f36 [.box []] K) =
  cond (decide (i < (↑(List.length xs) : Int)))
    (cond (decide (k ≤ 8388608))
      (cond (decide (0 ≤ i) && Nat.blt (Int.toNat i) (List.length xs))
        ((match xs[Int.toNat i]? with
          | some x0 => cond (decide (0 ≤ i) && Nat.blt (Int.toNat i) (List.length (List.set xs (Int.toNat i) (mtx k, Prod.snd x0))))
            ((match (List.set xs (Int.toNat i) (mtx k, Prod.snd x0))[Int.toNat i]? with
              | some x1 => (match (List.set xs (Int.toNat i) (mtx k, Prod.snd x0))[Int.toNat i]? with
                | some x2 => cond (decide (0 ≤ IntKind.wrap IntKind.i64 (k + 1)) && decide (IntKind.wrap IntKind.i64 (k + 1) + (↑(sumW wN (Prod.fst (Prod.snd x2))) : Int) ≤ 8388608))
                  (cond (decide (0 ≤ i) && Nat.blt (Int.toNat i) (List.length (List.set (List.set xs (Int.toNat i) (mtx k, Prod.snd x0)) (Int.toNat i) (putAt tT x2 1 tN (markL mkN wN (IntKind.wrap IntKind.i64 (k + 1)) (Prod.fst (Prod.snd x2)))))))
                    ((match (List.set (List.set xs (Int.toNat i) (mtx k, Prod.snd x0)) (Int.toNat i) (putAt tT x2 1 tN (markL mkN wN (IntKind.wrap IntKind.i64 (k + 1)) (Prod.fst (Prod.snd x2)))))[Int.toNat i]? with
                      | some x3 => (match (List.set (List.set xs (Int.toNat i) (mtx k, Prod.snd x0)) (Int.toNat i) (putAt tT x2 1 tN (markL mkN wN (IntKind.wrap IntKind.i64 (k + 1)) (Prod.fst (Prod.snd x2)))))[Int.toNat i]? with
                        | some x4 => cond (decide (0 ≤ IntKind.wrap IntKind.i64 (k + 1) + (↑(sumW wN (Prod.fst (Prod.snd x2))) : Int)) && decide (IntKind.wrap IntKind.i64 (k + 1) + (↑(sumW wN (Prod.fst (Prod.snd x2))) : Int) + (↑(sumW wK (Prod.snd (Prod.snd x4))) : Int) ≤ 8388608))
                          (Kn [(0, (.dob 0 0)), (1, (.int .i64 (IntKind.wrap IntKind.i64 (k + 1) + (↑(sumW wN (Prod.fst (Prod.snd x2))) : Int) + (↑(sumW wK (Prod.snd (Prod.snd x4))) : Int)))), (5, (.int .i64 (IntKind.wrap IntKind.i64 (i + 1))))] [(.dp 0 0 tT (List.set (List.set (List.set xs (Int.toNat i) (mtx k, Prod.snd x0)) (Int.toNat i) (putAt tT x2 1 tN (markL mkN wN (IntKind.wrap IntKind.i64 (k + 1)) (Prod.fst (Prod.snd x2))))) (Int.toNat i) (putAt tT x4 2 tK (markL mkK wK (IntKind.wrap IntKind.i64 (k + 1) + (↑(sumW wN (Prod.fst (Prod.snd x2))) : Int)) (Prod.snd (Prod.snd x4))))))])
                          (False)
                        | none => False)
                      | none => False))
                    (False))
                  (False)
                | none => False)
              | none => False))
            (False)
          | none => False))
        (False))
      (False))
    (K (.int .i64 (k)) [(.dp 0 0 tT (xs))]) := by kernel_rfl
theorem w_laws_markThingS (xs : List ThingD) (k : Int) (K : V → Heap → Prop) : wpFnO c_laws_markThingS Tryz.f36 (ofCells false [.dob 0 0] :: encAs [.cell tI] (k, ())) [.dp 0 0 tT xs] K =
  LoopE c_laws_markThingS ⟨[0, 1, 5], 1, false⟩ (lb c_laws_markThingS 2 Tryz.f36) [(0, (.dob 0 0)), (1, (.int .i64 (k))), (5, (.int .i64 0))] [(.dp 0 0 tT (xs))] (lkO c_laws_markThingS 2 Tryz.f36 [.box []] K) := by kernel_rfl
noncomputable def s_laws_markThingS : Sm := semID false tT [.cell tI] (fun xs x => match x with | (k, _) => decide (0 ≤ k) && decide (k + sumW wT xs ≤ 8388608)) fun xs x => match x with | (k, _) => (.int .i64 (k + sumW wT xs), markL mkT wT k xs)
theorem ok_laws_markThingS : FnOkL Tryz.prog 36 s_laws_markThingS := fnOkO_innD (e := tT) (ag := false) (l := [.cell tI]) (gd := (fun xs x => match x with | (k, _) => decide (0 ≤ k) && decide (k + sumW wT xs ≤ 8388608))) (f := fun xs x => match x with | (k, _) => (.int .i64 (k + sumW wT xs), markL mkT wT k xs)) (fnOkO_runC (C := c_laws_markThingS) rfl mixed (.cons ok_laws_markText .nil) .nil (.cons ok_laws_markNodeS (.cons ok_laws_markKeyS .nil)) Tryz.func36 (by kernel_rfl)) fun (xs : List ThingD) (x : ((Int) × Unit)) wf hg K h => by
  obtain ⟨k, ⟨⟩⟩ := x
  replace hg : (decide (0 ≤ k) && decide (k + sumW wT xs ≤ 8388608)) = true := hg
  replace h : K (.int .i64 (k + sumW wT xs)) [.dp 0 0 tT (markL mkT wT k xs)] := h
  rw [w_laws_markThingS xs k K]
  simp only [Bool.and_eq_true, decide_eq_true_eq] at hg
  obtain ⟨g1, g2⟩ := hg
  have hml := markL_len mkT wT xs k
  have hxl := len_sumW wT_pos xs
  refine loop_run (σ := Nat × Int) (fun s => fr_laws_markThingS_2 [] s.2 s.1) (fun s => hp_laws_markThingS_2 ((markL mkT wT k xs).take s.1 ++ xs.drop s.1) s.2 s.1) (fun s => s.1 ≤ xs.length ∧ s.2 = k + sumW wT (xs.take s.1)) (fun s => xs.length - s.1) ?_ (0, k) ⟨Nat.zero_le _, by simp [sumW]⟩
  rintro ⟨i, kk⟩ ⟨hi, hkk⟩ Kn hk
  simp only at hi hkk hk ⊢
  have hl : ((markL mkT wT k xs).take i ++ xs.drop i).length = xs.length := by rw [List.length_append, List.length_take, List.length_drop, hml]; omega
  rw [show fr_laws_markThingS_2 [] kk i = fr_laws_markThingS_2 ((markL mkT wT k xs).take i ++ xs.drop i) kk i from rfl, r_laws_markThingS_2 ((markL mkT wT k xs).take i ++ xs.drop i) kk i Kn K]
  by_cases hlt : i < xs.length
  · have hget := over_get (zs := markL mkT wT k xs) (xs := xs) (i := i) (by omega) hlt
    have hst := over_step (zs := markL mkT wT k xs) (xs := xs) (i := i) (by omega) hlt
    rw [markL_get mkT wT xs k i hlt, ← hkk] at hst
    have hw := sumW_take wT hlt
    have hle := sumW_le wT xs (i + 1)
    have hwx : wT (xs[i]'hlt) = 1 + sumW wN (xs[i]'hlt).2.1 + sumW wK (xs[i]'hlt).2.2 := rfl
    generalize hzs : (markL mkT wT k xs).take i ++ xs.drop i = zs at hl hget hst ⊢
    have hself : ∀ y, (zs.set i y)[i]? = some y := fun y => List.getElem?_set_self (by omega)
    generalize hxe : xs[i]'hlt = x at *
    rw [i64_of (show -9223372036854775808 ≤ kk + 1 by omega) (by omega)]
    simp only [hl, List.length_set, d_lt hlt, d_0, cond_true, Int.toNat_natCast, blt_t hlt, Bool.and_self, hget, hself, List.set_set]
    have e1 : IntKind.i64.wrap (kk + 1) = kk + 1 := i64_of (by omega) (by omega)
    rw [i64_of (show -9223372036854775808 ≤ (i : Int) + 1 by omega) (by omega)]
    simp only [d_t (show kk ≤ 8388608 by omega), d_t (show 0 ≤ kk + 1 by omega), d_t (show kk + 1 + (sumW wN x.2.1 : Int) ≤ 8388608 by omega), d_t (show 0 ≤ kk + 1 + (sumW wN x.2.1 : Int) by omega), d_t (show kk + 1 + (sumW wN x.2.1 : Int) + (sumW wK x.2.2 : Int) ≤ 8388608 by omega), putT1, putT2, Bool.and_self, cond_true, hself, List.length_set, hl, blt_t hlt, List.set_set]
    have hmk : zs.set i (mtx kk, markL mkN wN (kk + 1) x.2.1, markL mkK wK (kk + 1 + (sumW wN x.2.1 : Int)) x.2.2) = (markL mkT wT k xs).take (i + 1) ++ xs.drop (i + 1) := by
      rw [← hst, mkT]
    rw [hmk]
    refine cond_intro (by rw [Bool.true_and]; exact decide_eq_true (by omega)) ?_
    have := hk (i + 1, kk + wT x) ⟨hlt, by simp only; omega⟩ (by simp only; omega)
    simp only at this
    rw [show kk + 1 + (sumW wN x.2.1 : Int) + (sumW wK x.2.2 : Int) = kk + ((wT x : Nat) : Int) by omega]
    exact this
  · have : i = xs.length := by omega
    simp only [hl, d_nlt hlt, cond_false]
    rw [List.take_of_length_le (by omega), List.drop_of_length_le (by omega), List.append_nil, hkk, this, List.take_length]
    exact h

/-! laws.heldThingS -/
noncomputable def a_laws_heldThingS : Nat → Option Ann := fun n => bif Nat.beq n 2 then some ⟨[0,1,5],0,false⟩ else none
noncomputable def c_laws_heldThingS : Ctx := mkC Tryz.prog tyT [(59, s_laws_heldNodeS), (60, s_laws_heldKeyS), (57, s_laws_markText)] [] [] 42 a_laws_heldThingS 0
noncomputable def fr_laws_heldThingS_2 (xs : List ThingD) (k i : Int) : Fr := [(0, .vec tT xs), (1, .int .i64 k), (5, .int .i64 i)]
theorem r_laws_heldThingS_2 (xs : List ThingD) (k i : Int) (Kn : Fr → Heap → Prop) (K : V → Heap → Prop) : round c_laws_heldThingS ⟨[0,1,5],0,false⟩ (lb c_laws_heldThingS 2 Tryz.f39) (fr_laws_heldThingS_2 xs k i) [] Kn (lk c_laws_heldThingS 2 Tryz.f39 [] K) =
  cond (decide (i < (↑(List.length xs) : Int)))
    (cond (decide (0 ≤ i))
      ((match xs[Int.toNat i]? with
        | some y0 => cond (decide (k ≤ 8388608))
          (cond (!bytesEq (Prod.fst y0) (mtx k))
            (K (.int .i64 (-1)) [])
            (cond (decide (0 ≤ i))
              ((match xs[Int.toNat i]? with
                | some y1 => cond (decide (0 ≤ IntKind.wrap IntKind.i64 (k + 1)) && (decide (IntKind.wrap IntKind.i64 (k + 1) + (↑(sumW wN (Prod.fst (Prod.snd y1))) : Int) ≤ 8388608) && Prod.fst (Prod.snd y1) == markL mkN wN (IntKind.wrap IntKind.i64 (k + 1)) (Prod.fst (Prod.snd y1))))
                  (cond (decide (IntKind.wrap IntKind.i64 (k + 1) + (↑(sumW wN (Prod.fst (Prod.snd y1))) : Int) < 0))
                    (K (.int .i64 (-1)) [])
                    (cond (decide (0 ≤ i))
                      ((match xs[Int.toNat i]? with
                        | some y2 => cond (decide (0 ≤ IntKind.wrap IntKind.i64 (k + 1) + (↑(sumW wN (Prod.fst (Prod.snd y1))) : Int)) && (decide (IntKind.wrap IntKind.i64 (k + 1) + (↑(sumW wN (Prod.fst (Prod.snd y1))) : Int) + (↑(sumW wK (Prod.snd (Prod.snd y2))) : Int) ≤ 8388608) && Prod.snd (Prod.snd y2) == markL mkK wK (IntKind.wrap IntKind.i64 (k + 1) + (↑(sumW wN (Prod.fst (Prod.snd y1))) : Int)) (Prod.snd (Prod.snd y2))))
                          (cond (decide (IntKind.wrap IntKind.i64 (k + 1) + (↑(sumW wN (Prod.fst (Prod.snd y1))) : Int) + (↑(sumW wK (Prod.snd (Prod.snd y2))) : Int) < 0))
                            (K (.int .i64 (-1)) [])
                            (Kn [(0, (.vec tT (xs))), (1, (.int .i64 (IntKind.wrap IntKind.i64 (k + 1) + (↑(sumW wN (Prod.fst (Prod.snd y1))) : Int) + (↑(sumW wK (Prod.snd (Prod.snd y2))) : Int)))), (5, (.int .i64 (IntKind.wrap IntKind.i64 (i + 1))))] []))
                          (False)
                        | none => False))
                      (False)))
                  (False)
                | none => False))
              (False)))
          (False)
        | none => False))
      (False))
    (K (.int .i64 (k)) []) := by kernel_rfl
theorem w_laws_heldThingS (xs : List ThingD) (k : Int) (K : V → Heap → Prop) : wpFn c_laws_heldThingS Tryz.f39 (encAs [.cell (.slice tT), .cell tI] (xs, k, ())) [] K =
  LoopE c_laws_heldThingS ⟨[0, 1, 5], 0, false⟩ (lb c_laws_heldThingS 2 Tryz.f39) [(0, (.vec tT (xs))), (1, (.int .i64 (k))), (5, (.int .i64 0))] [] (lk c_laws_heldThingS 2 Tryz.f39 [] K) := by kernel_rfl
noncomputable def s_laws_heldThingS : Sm := semG [.cell (.slice tT), .cell tI] (fun x => match x with | (xs, k, _) => decide (0 ≤ k) && (decide (k + sumW wT xs ≤ 8388608) && (xs == markL mkT wT k xs))) fun x => match x with | (xs, k, _) => .int .i64 (k + sumW wT xs)
theorem ok_laws_heldThingS : FnOk Tryz.prog 39 s_laws_heldThingS := fnOk_typedG (fnOk_runC (C := c_laws_heldThingS) rfl mixed (.cons ok_laws_heldNodeS (.cons ok_laws_heldKeyS (.cons ok_laws_markText .nil))) .nil .nil Tryz.func39 (by kernel_rfl)) fun (x : ((List ThingD) × (Int) × Unit)) wf hg K h => by
  obtain ⟨xs, k, ⟨⟩⟩ := x
  replace hg : (decide (0 ≤ k) && (decide (k + sumW wT xs ≤ 8388608) && (xs == markL mkT wT k xs))) = true := hg
  replace h : K (.int .i64 (k + sumW wT xs)) [] := h
  rw [w_laws_heldThingS xs k K]
  simp only [Bool.and_eq_true, decide_eq_true_eq, beq_iff_eq] at hg
  obtain ⟨g1, g2, g4⟩ := hg
  have hxl := len_sumW wT_pos xs
  refine loop_run (σ := Nat × Int) (fun s => fr_laws_heldThingS_2 xs s.2 s.1) (fun s => []) (fun s => s.1 ≤ xs.length ∧ s.2 = k + sumW wT (xs.take s.1)) (fun s => xs.length - s.1) ?_ (0, k) ⟨Nat.zero_le _, by simp [sumW]⟩
  rintro ⟨i, kk⟩ ⟨hi, hkk⟩ Kn hk
  simp only at hi hkk hk ⊢
  rw [r_laws_heldThingS_2 xs kk i Kn K]
  by_cases hlt : i < xs.length
  · have hx : xs[i]'hlt = mkT kk (xs[i]'hlt) := by
      have := markL_get mkT wT xs k i hlt
      rw [hkk, ← this]
      simp only [← g4]
    have hw := sumW_take wT hlt
    have hle := sumW_le wT xs (i + 1)
    have hwx : wT (xs[i]'hlt) = 1 + sumW wN (xs[i]'hlt).2.1 + sumW wK (xs[i]'hlt).2.2 := rfl
    rw [i64_of (show -9223372036854775808 ≤ kk + 1 by omega) (by omega)]
    simp only [d_lt hlt, d_0, cond_true, Int.toNat_natCast, get_lt hlt, d_t (show kk ≤ 8388608 by omega)]
    generalize hxe : xs[i]'hlt = x at *
    have e1 : x.1 = mtx kk := by rw [hx]; rfl
    have e2 : x.2.1 = markL mkN wN (kk + 1) x.2.1 := by conv => lhs; rw [hx, mkT]
    have e3 : x.2.2 = markL mkK wK (kk + 1 + (sumW wN x.2.1 : Int)) x.2.2 := by conv => lhs; rw [hx, mkT]
    have b2 : (x.2.1 == markL mkN wN (kk + 1) x.2.1) = true := beq_iff_eq.mpr e2
    have b3 : (x.2.2 == markL mkK wK (kk + 1 + (sumW wN x.2.1 : Int)) x.2.2) = true := beq_iff_eq.mpr e3
    have e4 : bytesEq x.1 (mtx kk) = true := by rw [bytesEq, e1]; exact beq_self_eq_true _
    simp only [e4, b2, b3, d_t (show 0 ≤ kk + 1 by omega), d_t (show kk + 1 + (sumW wN x.2.1 : Int) ≤ 8388608 by omega), d_f (show ¬ kk + 1 + (sumW wN x.2.1 : Int) < 0 by omega), d_t (show 0 ≤ kk + 1 + (sumW wN x.2.1 : Int) by omega), d_t (show kk + 1 + (sumW wN x.2.1 : Int) + (sumW wK x.2.2 : Int) ≤ 8388608 by omega), d_f (show ¬ kk + 1 + (sumW wN x.2.1 : Int) + (sumW wK x.2.2 : Int) < 0 by omega), Bool.not_true, Bool.and_self, cond_true, cond_false]
    rw [i64_of (show -9223372036854775808 ≤ (i : Int) + 1 by omega) (by omega)]
    have := hk (i + 1, kk + wT x) ⟨hlt, by simp only; omega⟩ (by simp only; omega)
    simp only at this
    rw [show kk + 1 + (sumW wN x.2.1 : Int) + (sumW wK x.2.2 : Int) = kk + ((wT x : Nat) : Int) by omega]
    exact this
  · have : i = xs.length := by omega
    simp only [d_nlt hlt, cond_false]
    rw [hkk, this, List.take_length]
    exact h

/-! laws.markScene -/
noncomputable def c_laws_markScene : Ctx := mkC Tryz.prog tyT [] [] [(36, s_laws_markThingS)] 10 (fun _ => none) 1
theorem w_laws_markScene (xs : List ThingD) (k : Int) (K : V → Heap → Prop) : wpFnO c_laws_markScene Tryz.f13 (ofCells true (encP [.deep tT] (xs, ()) 0) :: encAs [.cell tI] (k, ())) (thP [.deep tT] (xs, ())) K =
  cond ((fun xs x => decide (0 ≤ Prod.fst x) && decide (Prod.fst x + (↑(sumW wT xs) : Int) ≤ 8388608)) xs (k, ()))
    (K (.int .i64 (k + (↑(sumW wT xs) : Int))) [(.dp 0 0 tT (markL mkT wT k xs))])
    (False) := by kernel_rfl
noncomputable def s_laws_markScene : Sm := semM true [.deep tT] [.cell tI] (fun y x => match y, x with | (xs, _), (k, _) => decide (0 ≤ k) && decide (k + sumW wT xs ≤ 8388608)) fun y x => match y, x with | (xs, _), (k, _) => (.int .i64 (k + sumW wT xs), (markL mkT wT k xs, ()))
theorem ok_laws_markScene : FnOkL Tryz.prog 13 s_laws_markScene := fnOkO_mark (fnOkO_runC (C := c_laws_markScene) rfl mixed .nil .nil (.cons ok_laws_markThingS .nil) Tryz.func13 (by kernel_rfl)) (by first | exact .inl rfl | exact .inr (.inl ⟨_, rfl⟩) | exact .inr (.inr ⟨_, rfl⟩)) fun (y : ((List ThingD) × Unit)) (x : ((Int) × Unit)) wf hg K h => by
  obtain ⟨k, ⟨⟩⟩ := x
  obtain ⟨xs, ⟨⟩⟩ := y
  replace hg : (decide (0 ≤ k) && decide (k + sumW wT xs ≤ 8388608)) = true := hg
  replace h : K (.int .i64 (k + sumW wT xs)) (thP [.deep tT] ((markL mkT wT k xs, ()))) := h
  rw [w_laws_markScene xs k K]
  simp only
  rw [hg]
  exact h

/-! laws.heldScene -/
noncomputable def c_laws_heldScene : Ctx := mkC Tryz.prog tyT [(39, s_laws_heldThingS)] [] [] 12 (fun _ => none) 0
theorem w_laws_heldScene (xs : List ThingD) (k : Int) (K : V → Heap → Prop) : wpFn c_laws_heldScene Tryz.f15 (encAs [.agg (.slice tT), .cell tI] (xs, k, ())) [] K =
  cond (decide (0 ≤ k) && (decide (k + (↑(sumW wT xs) : Int) ≤ 8388608) && xs == markL mkT wT k xs))
    (cond (decide (k + (↑(sumW wT xs) : Int) < 0))
      (K (.int .i64 (-1)) [])
      (K (.int .i64 (k + (↑(sumW wT xs) : Int))) []))
    (False) := by kernel_rfl
noncomputable def s_laws_heldScene : Sm := semG [.agg (.slice tT), .cell tI] (fun x => match x with | (xs, k, _) => decide (0 ≤ k) && (decide (k + sumW wT xs ≤ 8388608) && (xs == markL mkT wT k xs))) fun x => match x with | (xs, k, _) => .int .i64 (k + sumW wT xs)
theorem ok_laws_heldScene : FnOk Tryz.prog 15 s_laws_heldScene := fnOk_typedG (fnOk_runC (C := c_laws_heldScene) rfl mixed (.cons ok_laws_heldThingS .nil) .nil .nil Tryz.func15 (by kernel_rfl)) fun (x : ((List ThingD) × (Int) × Unit)) wf hg K h => by
  obtain ⟨xs, k, ⟨⟩⟩ := x
  replace hg : (decide (0 ≤ k) && (decide (k + sumW wT xs ≤ 8388608) && (xs == markL mkT wT k xs))) = true := hg
  replace h : K (.int .i64 (k + sumW wT xs)) [] := h
  rw [w_laws_heldScene xs k K]
  rw [hg]
  simp only [Bool.and_eq_true, decide_eq_true_eq] at hg
  rw [show decide (k + (sumW wT xs : Int) < 0) = false from decide_eq_false (by omega)]
  exact h

theorem mkT_idem (k : Int) (x : ThingD) : mkT k (mkT k x) = mkT k x := by
  unfold mkT
  simp only [sumW_markL wN_mk, markL_idem mkN_idem wN_mk, markL_idem mkK_idem wK_mk]
theorem wT_mk (k : Int) (x : ThingD) : wT (mkT k x) = wT x := by
  unfold wT mkT
  simp only [sumW_markL wN_mk, sumW_markL wK_mk]
theorem sumWT_cons (x : ThingD) (s : List ThingD) : sumW wT (x :: s) = wT x + sumW wT s := by simp [sumW]
theorem wT_le (t : ThingD) : wT t ≤ 4 * wThing t + 1 := by
  have h1 := sumWN_le t.2.1
  unfold wT wThing
  rw [sumWK]
  omega
theorem sumWT_le : ∀ s : List ThingD, sumW wT s ≤ 4 * wScene s
  | [] => by simp [sumW]
  | x :: s => by
    have := sumWT_le s
    rw [sumWT_cons]
    have e : wScene (x :: s) = wScene s + 1 + wThing x := by simp [wScene, wList]; omega
    have e2 := wT_le x
    omega
/-- The numbers that a scene is marked with are few. -/
theorem markC_le {ts : List ThingD} (h : wScene ts ≤ 1048576) : sumW wT ts ≤ 4194304 := by
  have := sumWT_le ts
  omega

end Go.Proofs.YtkppbbaibjhkaaaGreat
