/- Shapes that are read from bytes. -/
import Derived.Test.YtbbkhjeohfdcaaaBytes0
import Derived.Test.YtbbkhjeohfdcaaaDeep
import Derived.Test.YtbbkhjeohfdcaaaFlE
set_option linter.unusedVariables false
set_option linter.unusedSimpArgs false
set_option maxRecDepth 100000
namespace Go.Proofs.Ytbbkhjeohfdcaaa
open Go.Ev

theorem cond_intro {b : Bool} {P Q : Prop} (h : b = true) (hp : P) : cond b P Q := by rw [h]; exact hp
theorem cond_sel {b : Bool} {P Q : Prop} (h1 : b = true → P) (h2 : b = false → Q) : cond b P Q := by cases b with | true => exact h1 rfl | false => exact h2 rfl
abbrev Str := List UInt8
abbrev tRd : Ty := .pair .str (.pair tI .bool)
abbrev RdD := Str × Int × Bool
--B leV List UInt8 → Int
def leV (t : Str) : Int := t.foldr (fun c m => m * 256 + (c.toNat : Int)) 0
--B fromV Int → Nat
def fromV (n : Int) : Nat := canon .f32 (IntKind.u32.wrap n).toNat
--B posR RdD → Bool
def posR (s : RdD) : Bool := decide (s.1.length ≤ 1048576) && (decide (0 ≤ s.2.1) && decide (s.2.1 ≤ (s.1.length : Int)))

/-! spec.l01From -/
noncomputable def c_spec_l01From : Ctx := mkC Try.prog tyT [(53, s_math_Float32frombits)] [] [] 6 (fun _ => none) 0
theorem w_spec_l01From (n : Int) (K : V → Heap → Prop) : wpFn c_spec_l01From Try.f40 (encAs [.cell (.int .i64)] (n, ())) [] K =
  K (.float .f32 (canon FloatKind.f32 (Int.toNat (IntKind.wrap IntKind.u32 n)))) [] := by kernel_rfl
noncomputable def s_spec_l01From : Sm := semT [.cell (.int .i64)] fun x => match x with | (n, _) => .float .f32 (fromV n)
theorem ok_spec_l01From : FnOk Try.prog 40 s_spec_l01From := fnOk_typed (fnOk_runC (C := c_spec_l01From) rfl mixed (.cons ok_math_Float32frombits .nil) .nil .nil Try.func40 (by kernel_rfl)) fun (x : ((Int) × Unit)) wf K h => by
  obtain ⟨n, ⟨⟩⟩ := x
  replace h : K (.float .f32 (fromV n)) [] := h
  rw [w_spec_l01From n K]
  exact h

/-! impl.FromBits -/
noncomputable def c_impl_FromBits : Ctx := mkC Try.prog tyT [(29, s_impl_in), (53, s_math_Float32frombits)] [] [] 10 (fun _ => none) 0
theorem w_impl_FromBits (n : Int) (K : V → Heap → Prop) : wpFn c_impl_FromBits Try.f46 (encAs [.cell (.int .i64)] (n, ())) [] K =
  cond (!inR n 0 4294967295)
    (K (.tuple [(.float .f32 0), (.bool false)]) [])
    (K (.tuple [(.float .f32 (canon FloatKind.f32 (Int.toNat (IntKind.wrap IntKind.u32 n)))), (.bool true)]) []) := by kernel_rfl
noncomputable def s_impl_FromBits : Sm := semT [.cell (.int .i64)] fun x => match x with | (n, _) => .tuple [.float .f32 (bif inR n 0 4294967295 then fromV n else 0), .bool (inR n 0 4294967295)]
theorem ok_impl_FromBits : FnOk Try.prog 46 s_impl_FromBits := fnOk_typed (fnOk_runC (C := c_impl_FromBits) rfl mixed (.cons ok_impl_in (.cons ok_math_Float32frombits .nil)) .nil .nil Try.func46 (by kernel_rfl)) fun (x : ((Int) × Unit)) wf K h => by
  obtain ⟨n, ⟨⟩⟩ := x
  replace h : K (.tuple [.float .f32 (bif inR n 0 4294967295 then fromV n else 0), .bool (inR n 0 4294967295)]) [] := h
  rw [w_impl_FromBits n K]
  unfold fromV at h
  cases e : inR n 0 4294967295 <;> rw [e] at h <;> exact h

def rdOk (s : RdD) (k : Int) : Bool := !s.2.2 && decide (s.2.1 + k ≤ (s.1.length : Int))
--B textR RdD → Int → List UInt8
def textR (s : RdD) (k : Int) : Str := bif rdOk s k then (s.1.drop s.2.1.toNat).take k.toNat else []
--B textN RdD → Int → RdD
def textN (s : RdD) (k : Int) : RdD := (s.1, (bif rdOk s k then s.2.1 + k else s.2.1), !rdOk s k)
def eOk (s : RdD) (k : Int) : Bool := decide (s.2.1 + k ≤ (s.1.length : Int))
--B wordV RdD → Int → Int
def wordV (s : RdD) (k : Int) : Int := bif eOk s k then leV ((s.1.drop s.2.1.toNat).take k.toNat) else 0
--B wordN RdD → Int → RdD
def wordN (s : RdD) (k : Int) : RdD := (s.1, (bif eOk s k then s.2.1 + k else s.2.1), s.2.2 && eOk s k)

/-! plain -/
theorem posR_iff {s : RdD} : posR s = true ↔ s.1.length ≤ 1048576 ∧ 0 ≤ s.2.1 ∧ s.2.1 ≤ (s.1.length : Int) := by unfold posR; simp
theorem posR_text {s : RdD} {k : Int} (h : posR s = true) (hk : 0 ≤ k) : posR (textN s k) = true := by
  rw [posR_iff] at h ⊢
  unfold textN rdOk
  cases e : (!s.2.2 && decide (s.2.1 + k ≤ (s.1.length : Int))) with
  | false => simpa using h
  | true =>
    simp only [Bool.and_eq_true, decide_eq_true_eq] at e
    simp only [cond_true]
    omega
theorem posR_word {s : RdD} {k : Int} (h : posR s = true) (hk : 0 ≤ k) : posR (wordN s k) = true := by
  rw [posR_iff] at h ⊢
  unfold wordN eOk
  cases e : decide (s.2.1 + k ≤ (s.1.length : Int)) with
  | false => simpa using h
  | true =>
    have e := of_decide_eq_true e
    simp only [cond_true]
    omega
theorem leV_cons (c : UInt8) (t : Str) : leV (c :: t) = leV t * 256 + (c.toNat : Int) := rfl
theorem leV_ge : ∀ t : Str, 0 ≤ leV t
  | [] => Int.le_refl _
  | c :: t => by have := leV_ge t; rw [leV_cons]; omega
theorem leV_lt : ∀ (k : Nat) (t : Str), t.length ≤ k → leV t < 256 ^ k
  | 0, t, h => by
    have : t = [] := List.eq_nil_of_length_eq_zero (by omega)
    subst this
    decide
  | k + 1, [], _ => Int.pow_pos (by decide)
  | k + 1, c :: t, h => by
    have h1 := leV_lt k t (by simpa using h)
    have h2 := c.toNat_lt
    rw [leV_cons, Int.pow_succ]
    omega
theorem textR_len (s : RdD) (k : Int) : (textR s k).length ≤ k.toNat := by
  unfold textR
  cases rdOk s k with
  | false => exact Nat.zero_le _
  | true => simp only [cond_true, List.length_take]; omega
theorem leV_text4 (s : RdD) {k : Int} (hk : k ≤ 4) : 0 ≤ leV (textR s k) ∧ leV (textR s k) ≤ 4294967295 := by
  have h1 := textR_len s k
  have := leV_lt 4 (textR s k) (by omega)
  have e : (256 : Int) ^ 4 = 4294967296 := rfl
  exact ⟨leV_ge _, by omega⟩
theorem leV_text1 (s : RdD) : 0 ≤ leV (textR s 1) ∧ leV (textR s 1) ≤ 255 := by
  have h1 := textR_len s 1
  have := leV_lt 1 (textR s 1) (by simpa using h1)
  have e : (256 : Int) ^ 1 = 256 := rfl
  exact ⟨leV_ge _, by omega⟩
theorem wordV_1 (s : RdD) : 0 ≤ wordV s 1 ∧ wordV s 1 ≤ 255 := by
  unfold wordV
  cases eOk s 1 with
  | false => simp
  | true =>
    simp only [cond_true]
    have := leV_lt 1 ((s.1.drop s.2.1.toNat).take (1 : Int).toNat) (by rw [List.length_take]; exact Nat.min_le_left _ _)
    have e : (256 : Int) ^ 1 = 256 := rfl
    exact ⟨leV_ge _, by omega⟩
theorem kindN_range (k : Int) : 0 ≤ kindN k ∧ kindN k ≤ 4 := by
  cases hk : isK k with
  | true => rcases kinds hk with e | e | e | e | e | e | e | e | e | e | e | e | e | e | e | e | e <;> subst e <;> decide
  | false => simp only [kindN, kindV_no hk]; decide
theorem or_byte {m c : Nat} (hm : m < 36028797018963968) (hc : c < 256) : (BitVec.ofInt 64 ((m : Int) * 256) ||| BitVec.ofInt 64 (c : Int)).toNat = m * 256 + c := by
  have e1 : (BitVec.ofInt 64 ((m : Int) * 256)).toNat = m <<< 8 := by
    rw [BitVec.toNat_ofInt, Nat.shiftLeft_eq]
    have : ((2 ^ 64 : Nat) : Int) = 18446744073709551616 := by decide
    rw [this]
    omega
  have e2 : (BitVec.ofInt 64 (c : Int)).toNat = c := by
    rw [BitVec.toNat_ofInt]
    have : ((2 ^ 64 : Nat) : Int) = 18446744073709551616 := by decide
    rw [this]
    omega
  rw [BitVec.toNat_or, e1, e2, ← Nat.shiftLeft_add_eq_or_of_lt (show c < 2 ^ 8 from hc), Nat.shiftLeft_eq]

/-! (*impl.reader).text -/
noncomputable def c_impl_reader_text : Ctx := mkC Try.prog tyT [] [] [] 53 (fun _ => none) 1
theorem w_impl_reader_text (s : (tRd).den) (k : Int) (K : V → Heap → Prop) : wpFnO c_impl_reader_text Try.f45 (.ptr 0 0 :: encAs [.cell tI] (k, ())) [.box (enc tRd s)] K =
  cond (Prod.snd (Prod.snd s))
    (K (.str (Array.toList (ByteArray.data { data := #[] }))) [(.box [(.str (Prod.fst s)), (.int .i64 (Prod.fst (Prod.snd s))), (.bool true)])])
    (cond (decide (IntKind.wrap IntKind.i64 (Prod.fst (Prod.snd s) + k) > (↑(List.length (Prod.fst s)) : Int)))
      (K (.str (Array.toList (ByteArray.data { data := #[] }))) [(.box [(.str (Prod.fst s)), (.int .i64 (Prod.fst (Prod.snd s))), (.bool (decide (IntKind.wrap IntKind.i64 (Prod.fst (Prod.snd s) + k) > (↑(List.length (Prod.fst s)) : Int))))])])
      (cond (decide (0 ≤ IntKind.wrap IntKind.i64 (IntKind.wrap IntKind.i64 (Prod.fst (Prod.snd s) + k) - k)) && (decide (IntKind.wrap IntKind.i64 (IntKind.wrap IntKind.i64 (Prod.fst (Prod.snd s) + k) - k) ≤ IntKind.wrap IntKind.i64 (Prod.fst (Prod.snd s) + k)) && decide (IntKind.wrap IntKind.i64 (Prod.fst (Prod.snd s) + k) ≤ (↑(List.length (Prod.fst s)) : Int))))
        (K (.str (List.drop (Int.toNat (IntKind.wrap IntKind.i64 (IntKind.wrap IntKind.i64 (Prod.fst (Prod.snd s) + k) - k))) (List.take (Int.toNat (IntKind.wrap IntKind.i64 (Prod.fst (Prod.snd s) + k))) (Prod.fst s)))) [(.box [(.str (Prod.fst s)), (.int .i64 (IntKind.wrap IntKind.i64 (Prod.fst (Prod.snd s) + k))), (.bool (decide (IntKind.wrap IntKind.i64 (Prod.fst (Prod.snd s) + k) > (↑(List.length (Prod.fst s)) : Int))))])])
        (False))) := by kernel_rfl
noncomputable def s_impl_reader_text : Sm := semP tRd [.cell tI] (fun s x => match x with | (k, _) => posR s && (decide (0 ≤ k) && decide (k ≤ 8))) fun s x => match x with | (k, _) => (.str (textR s k), textN s k)
theorem ok_impl_reader_text : FnOkL Try.prog 45 s_impl_reader_text := fnOkO_box (fnOkO_runC (C := c_impl_reader_text) rfl mixed .nil .nil .nil Try.func45 (by kernel_rfl)) fun (s : (tRd).den) (x : ((Int) × Unit)) ws wf hg K h => by
  obtain ⟨k, ⟨⟩⟩ := x
  replace hg : (posR s && (decide (0 ≤ k) && decide (k ≤ 8))) = true := hg
  replace h : K (.str (textR s k)) [.box (enc tRd (textN s k))] := h
  rw [w_impl_reader_text s k K]
  simp only [Bool.and_eq_true, decide_eq_true_eq] at hg
  obtain ⟨g1, g2, g3⟩ := hg
  obtain ⟨p1, p2, p3⟩ := posR_iff.1 g1
  unfold textR textN rdOk at h
  obtain ⟨q, hq⟩ : ∃ q : Nat, s.2.1 = (q : Int) := ⟨s.2.1.toNat, (Int.toNat_of_nonneg p2).symm⟩
  rw [hq] at h p3 ⊢
  have hw : IntKind.i64.wrap ((q : Int) + k) = q + k := i64_of (by omega) (by omega)
  have hw2 : IntKind.i64.wrap ((q : Int) + k - k) = q := by rw [i64_of (by omega) (by omega)]; omega
  rw [hw, hw2]
  cases e : s.2.2 with
  | true =>
    simp only [e, Bool.not_true, Bool.false_and, cond_false, cond_true] at h ⊢
    exact h
  | false =>
    simp only [e, Bool.not_false, Bool.true_and, cond_false] at h ⊢
    by_cases hl : (q : Int) + k ≤ (s.1.length : Int)
    · rw [d_t hl] at h
      rw [d_f (show ¬ (q : Int) + k > (s.1.length : Int) by omega)]
      simp only [cond_true, cond_false, Bool.not_true] at h ⊢
      refine cond_intro (by rw [Bool.and_eq_true, Bool.and_eq_true]; exact ⟨decide_eq_true (by omega), decide_eq_true (by omega), decide_eq_true (by omega)⟩) ?_
      rw [List.drop_take, show ((q : Int) + k).toNat - (q : Int).toNat = k.toNat by omega]
      exact h
    · rw [d_f hl] at h
      rw [d_t (show (q : Int) + k > (s.1.length : Int) by omega)]
      exact h

/-! (*impl.reader).number -/
noncomputable def a_impl_reader_number : Nat → Option Ann := fun n => bif Nat.beq n 3 then some ⟨[5,6,7],1,true⟩ else none
noncomputable def c_impl_reader_number : Ctx := mkC Try.prog tyT [] [] [(45, s_impl_reader_text)] 26 a_impl_reader_number 1
noncomputable def fr_impl_reader_number_3 (s : RdD) (v i : Int) (t : Str) : Fr := [(5, .int .i64 v), (6, .str t), (7, .int .i64 i)]
noncomputable def hp_impl_reader_number_3 (s : RdD) (v i : Int) (t : Str) : Heap := [.box (enc tRd s)]
theorem r_impl_reader_number_3 (s : RdD) (v i : Int) (t : Str) (Kn : Fr → Heap → Prop) (K : V → Heap → Prop) : round c_impl_reader_number ⟨[5,6,7],1,true⟩ (lb c_impl_reader_number 3 Try.f26) (fr_impl_reader_number_3 s v i t) (hp_impl_reader_number_3 s v i t) Kn (lkO c_impl_reader_number 3 Try.f26 [.box []] K) =
  cond (decide (i ≥ 0))
    (cond (decide (0 ≤ i))
      ((match t[Int.toNat i]? with
        | some b0 => Kn [(5, (.int .i64 (IntKind.wrap IntKind.i64 (IntKind.wrap IntKind.i64 (v * 2 ^ 8) + IntKind.wrap IntKind.i64 (↑(UInt8.toNat b0) : Int))))), (6, (.str (t))), (7, (.int .i64 (IntKind.wrap IntKind.i64 (i - 1))))] [(.box [(.str (Prod.fst s)), (.int .i64 (Prod.fst (Prod.snd s))), (.bool (Prod.snd (Prod.snd s)))])]
        | none => False))
      (False))
    (K (.int .i64 (v)) [(.box [(.str (Prod.fst s)), (.int .i64 (Prod.fst (Prod.snd s))), (.bool (Prod.snd (Prod.snd s)))])]) := by kernel_rfl
theorem w_impl_reader_number (s : (tRd).den) (k : Int) (K : V → Heap → Prop) : wpFnO c_impl_reader_number Try.f26 (.ptr 0 0 :: encAs [.cell tI] (k, ())) [.box (enc tRd s)] K =
  cond (posR s && (decide (0 ≤ k) && decide (k ≤ 8)))
    (LoopE c_impl_reader_number ⟨[5, 6, 7], 1, true⟩ (lb c_impl_reader_number 3 Try.f26) [(5, (.int .i64 0)), (6, (.str (textR s k))), (7, (.int .i64 (IntKind.wrap IntKind.i64 ((↑(List.length (textR s k)) : Int) - 1))))] [(.box [(.str (Prod.fst (textN s k))), (.int .i64 (Prod.fst (Prod.snd (textN s k)))), (.bool (Prod.snd (Prod.snd (textN s k))))])] (lkO c_impl_reader_number 3 Try.f26 [.box []] K))
    (False) := by kernel_rfl
noncomputable def s_impl_reader_number : Sm := semP tRd [.cell tI] (fun s x => match x with | (k, _) => posR s && (decide (0 ≤ k) && decide (k ≤ 4))) fun s x => match x with | (k, _) => (.int .i64 (leV (textR s k)), textN s k)
theorem ok_impl_reader_number : FnOkL Try.prog 26 s_impl_reader_number := fnOkO_box (fnOkO_runC (C := c_impl_reader_number) rfl mixed .nil .nil (.cons ok_impl_reader_text .nil) Try.func26 (by kernel_rfl)) fun (s : (tRd).den) (x : ((Int) × Unit)) ws wf hg K h => by
  obtain ⟨k, ⟨⟩⟩ := x
  replace hg : (posR s && (decide (0 ≤ k) && decide (k ≤ 4))) = true := hg
  replace h : K (.int .i64 (leV (textR s k))) [.box (enc tRd (textN s k))] := h
  rw [w_impl_reader_number s k K]
  have hg' := hg
  simp only [Bool.and_eq_true, decide_eq_true_eq] at hg
  obtain ⟨g1, g2, g3⟩ := hg
  have hl := textR_len s k
  rw [show (posR s && (decide (0 ≤ k) && decide (k ≤ 8))) = true by rw [g1, d_t g2, d_t (show k ≤ 8 by omega)]; rfl, cond_true]
  generalize textR s k = t at *
  generalize textN s k = u at *
  rw [i64_of (show -9223372036854775808 ≤ (t.length : Int) - 1 by omega) (by omega)]
  refine loop_run (σ := Nat × Int) (fun q => fr_impl_reader_number_3 u q.2 ((q.1 : Int) - 1) t) (fun q => hp_impl_reader_number_3 u 0 0 []) (fun q => q.1 ≤ t.length ∧ q.2 = leV (t.drop q.1)) (fun q => q.1) ?_ (t.length, 0) ⟨Nat.le_refl _, by simp only; rw [List.drop_of_length_le (Nat.le_refl _)]; rfl⟩
  rintro ⟨j, v⟩ ⟨hj, hv⟩ Kn hk
  simp only at hj hv hk ⊢
  rw [show hp_impl_reader_number_3 u 0 0 [] = hp_impl_reader_number_3 u v ((j : Int) - 1) t from rfl, r_impl_reader_number_3 u v ((j : Int) - 1) t Kn K]
  cases j with
  | zero =>
    rw [d_f (show ¬ ((0 : Nat) : Int) - 1 ≥ 0 by omega), cond_false, hv, List.drop_zero]
    exact h
  | succ j =>
    have hlt : j < t.length := by omega
    have e0 : ((j + 1 : Nat) : Int) - 1 = (j : Int) := by omega
    have e1 := leV_lt 4 (t.drop (j + 1)) (by rw [List.length_drop]; omega)
    have e2 := leV_ge (t.drop (j + 1))
    have e3 := (t[j]'hlt).toNat_lt
    have e4 : (256 : Int) ^ 4 = 4294967296 := rfl
    rw [e0]
    simp only [d_t (show (j : Int) ≥ 0 by omega), d_0, cond_true, Int.toNat_natCast, get_lt hlt]
    rw [i64_of (n := v * 2 ^ 8) (by omega) (by omega), i64_of (n := (((t[j]'hlt).toNat : Nat) : Int)) (by omega) (by omega), i64_of (n := v * 2 ^ 8 + (((t[j]'hlt).toNat : Nat) : Int)) (by omega) (by omega), i64_of (n := (j : Int) - 1) (by omega) (by omega)]
    refine hk (j, v * 2 ^ 8 + (((t[j]'hlt).toNat : Nat) : Int)) ⟨by simp only; omega, ?_⟩ (by simp only; omega)
    simp only
    rw [List.drop_eq_getElem_cons hlt, leV_cons, hv]
    rfl

/-! (*impl.reader).float -/
noncomputable def c_impl_reader_float : Ctx := mkC Try.prog tyT [(46, s_impl_FromBits)] [] [(26, s_impl_reader_number)] 12 (fun _ => none) 1
theorem w_impl_reader_float (s : (tRd).den) (K : V → Heap → Prop) : wpFnO c_impl_reader_float Try.f28 (.ptr 0 0 :: encAs [] ()) [.box (enc tRd s)] K =
  cond (posR s && (decide (0 ≤ 4) && decide (4 ≤ 4)))
    (K (.float .f32 (bif inR (leV (textR s 4)) 0 4294967295 then fromV (leV (textR s 4)) else 0)) [(.box [(.str (Prod.fst (textN s 4))), (.int .i64 (Prod.fst (Prod.snd (textN s 4)))), (.bool (Prod.snd (Prod.snd (textN s 4))))])])
    (False) := by kernel_rfl
noncomputable def s_impl_reader_float : Sm := semP tRd [] (fun s x => match x with | _ => posR s) fun s x => match x with | _ => (.float .f32 (fromV (leV (textR s 4))), textN s 4)
theorem ok_impl_reader_float : FnOkL Try.prog 28 s_impl_reader_float := fnOkO_box (fnOkO_runC (C := c_impl_reader_float) rfl mixed (.cons ok_impl_FromBits .nil) .nil (.cons ok_impl_reader_number .nil) Try.func28 (by kernel_rfl)) fun (s : (tRd).den) (x : Unit) ws wf hg K h => by
  obtain ⟨⟩ := x
  replace hg : (posR s) = true := hg
  replace h : K (.float .f32 (fromV (leV (textR s 4)))) [.box (enc tRd (textN s 4))] := h
  rw [w_impl_reader_float s  K]
  obtain ⟨r1, r2⟩ := leV_text4 s (k := 4) (by omega)
  have e : inR (leV (textR s 4)) 0 4294967295 = true := inR_iff.2 ⟨r1, r2⟩
  rw [hg, e]
  exact h

/-! (*spec.l10Eyes).word -/
noncomputable def a_spec_l10Eyes_word : Nat → Option Ann := fun n => bif Nat.beq n 6 then some ⟨[0,1,5,6],1,true⟩ else none
noncomputable def c_spec_l10Eyes_word : Ctx := mkC Try.prog tyT [] [] [] 52 a_spec_l10Eyes_word 1
noncomputable def fr_spec_l10Eyes_word_6 (s : RdD) (k v i : Int) : Fr := [(0, .ptr 0 0), (1, .int .i64 k), (5, .int .i64 v), (6, .int .i64 i)]
noncomputable def hp_spec_l10Eyes_word_6 (s : RdD) (k v i : Int) : Heap := [.box (enc tRd s)]
theorem r_spec_l10Eyes_word_6 (s : RdD) (k v i : Int) (Kn : Fr → Heap → Prop) (K : V → Heap → Prop) : round c_spec_l10Eyes_word ⟨[0,1,5,6],1,true⟩ (lb c_spec_l10Eyes_word 6 Try.f18) (fr_spec_l10Eyes_word_6 s k v i) (hp_spec_l10Eyes_word_6 s k v i) Kn (lkO c_spec_l10Eyes_word 6 Try.f18 [.box []] K) =
  cond (decide (i ≥ 0))
    (cond (decide (0 ≤ IntKind.wrap IntKind.i64 (Prod.fst (Prod.snd s) + i)))
      ((match (Prod.fst s)[Int.toNat (IntKind.wrap IntKind.i64 (Prod.fst (Prod.snd s) + i))]? with
        | some b0 => Kn [(0, (.ptr 0 0)), (1, (.int .i64 (k))), (5, (.int .i64 (IntKind.wrap IntKind.i64 (↑(BitVec.toNat (BitVec.ofInt 64 (IntKind.wrap IntKind.i64 (v * 2 ^ 8)) ||| BitVec.ofInt 64 (IntKind.wrap IntKind.i64 (↑(UInt8.toNat b0) : Int)))) : Int)))), (6, (.int .i64 (IntKind.wrap IntKind.i64 (i - 1))))] [(.box [(.str (Prod.fst s)), (.int .i64 (Prod.fst (Prod.snd s))), (.bool (Prod.snd (Prod.snd s)))])]
        | none => False))
      (False))
    (K (.int .i64 (v)) [(.box [(.str (Prod.fst s)), (.int .i64 (IntKind.wrap IntKind.i64 (Prod.fst (Prod.snd s) + k))), (.bool (Prod.snd (Prod.snd s)))])]) := by kernel_rfl
theorem w_spec_l10Eyes_word (s : (tRd).den) (k : Int) (K : V → Heap → Prop) : wpFnO c_spec_l10Eyes_word Try.f18 (.ptr 0 0 :: encAs [.cell tI] (k, ())) [.box (enc tRd s)] K =
  cond (decide (IntKind.wrap IntKind.i64 (Prod.fst (Prod.snd s) + k) > (↑(List.length (Prod.fst s)) : Int)))
    (K (.int .i64 0) [(.box [(.str (Prod.fst s)), (.int .i64 (Prod.fst (Prod.snd s))), (.bool false)])])
    (LoopE c_spec_l10Eyes_word ⟨[0, 1, 5, 6], 1, true⟩ (lb c_spec_l10Eyes_word 6 Try.f18) [(0, (.ptr 0 0)), (1, (.int .i64 (k))), (5, (.int .i64 0)), (6, (.int .i64 (IntKind.wrap IntKind.i64 (k - 1))))] [(.box [(.str (Prod.fst s)), (.int .i64 (Prod.fst (Prod.snd s))), (.bool (Prod.snd (Prod.snd s)))])] (lkO c_spec_l10Eyes_word 6 Try.f18 [.box []] K)) := by kernel_rfl
noncomputable def s_spec_l10Eyes_word : Sm := semP tRd [.cell tI] (fun s x => match x with | (k, _) => posR s && (decide (0 ≤ k) && decide (k ≤ 4))) fun s x => match x with | (k, _) => (.int .i64 (wordV s k), wordN s k)
theorem ok_spec_l10Eyes_word : FnOkL Try.prog 18 s_spec_l10Eyes_word := fnOkO_box (fnOkO_runC (C := c_spec_l10Eyes_word) rfl mixed .nil .nil .nil Try.func18 (by kernel_rfl)) fun (s : (tRd).den) (x : ((Int) × Unit)) ws wf hg K h => by
  obtain ⟨k, ⟨⟩⟩ := x
  replace hg : (posR s && (decide (0 ≤ k) && decide (k ≤ 4))) = true := hg
  replace h : K (.int .i64 (wordV s k)) [.box (enc tRd (wordN s k))] := h
  rw [w_spec_l10Eyes_word s k K]
  simp only [Bool.and_eq_true, decide_eq_true_eq] at hg
  obtain ⟨g1, g2, g3⟩ := hg
  obtain ⟨p1, p2, p3⟩ := posR_iff.1 g1
  unfold wordV wordN eOk at h
  obtain ⟨q, hq⟩ : ∃ q : Nat, s.2.1 = (q : Int) := ⟨s.2.1.toNat, (Int.toNat_of_nonneg p2).symm⟩
  obtain ⟨m, rfl⟩ : ∃ m : Nat, k = m := ⟨k.toNat, by omega⟩
  rw [hq] at h p3 ⊢
  have hw : IntKind.i64.wrap ((q : Int) + (m : Int)) = q + m := i64_of (by omega) (by omega)
  rw [hw]
  by_cases hl : (q : Int) + (m : Int) ≤ (s.1.length : Int)
  · rw [d_t hl] at h
    rw [d_f (show ¬ (q : Int) + (m : Int) > (s.1.length : Int) by omega), i64_of (n := (m : Int) - 1) (by omega) (by omega)]
    simp only [cond_true, cond_false, Bool.and_true, Int.toNat_natCast] at h ⊢
    have hsl : ((s.1.drop q).take m).length = m := by rw [List.length_take, List.length_drop]; omega
    have hget : ∀ (j : Nat) (hj : j < ((s.1.drop q).take m).length), s.1[q + j]? = some (((s.1.drop q).take m)[j]'hj) := fun j hj => by
      rw [List.getElem_take, List.getElem_drop, List.getElem?_eq_getElem]
    revert h hsl hget
    generalize (s.1.drop q).take m = t
    intro h hsl hget
    rw [← hq]
    refine loop_run (σ := Nat × Int) (fun r => fr_spec_l10Eyes_word_6 s m r.2 ((r.1 : Int) - 1)) (fun r => hp_spec_l10Eyes_word_6 s m 0 0) (fun r => r.1 ≤ m ∧ r.2 = leV (t.drop r.1)) (fun r => r.1) ?_ (m, 0) ⟨Nat.le_refl _, by simp only; rw [List.drop_of_length_le (by omega)]; rfl⟩
    rintro ⟨j, v⟩ ⟨hj, hv⟩ Kn hk
    simp only at hj hv hk ⊢
    rw [show hp_spec_l10Eyes_word_6 s m 0 0 = hp_spec_l10Eyes_word_6 s m v ((j : Int) - 1) from rfl, r_spec_l10Eyes_word_6 s m v ((j : Int) - 1) Kn K]
    cases j with
    | zero =>
      rw [d_f (show ¬ ((0 : Nat) : Int) - 1 ≥ 0 by omega), cond_false, hv, List.drop_zero, hq, hw]
      exact h
    | succ j =>
      have hlt : j < t.length := by omega
      have e0 : ((j + 1 : Nat) : Int) - 1 = (j : Int) := by omega
      have e1 := leV_lt 4 (t.drop (j + 1)) (by rw [List.length_drop]; omega)
      have e2 := leV_ge (t.drop (j + 1))
      have e3 := (t[j]'hlt).toNat_lt
      have e4 : (256 : Int) ^ 4 = 4294967296 := rfl
      have e5 : IntKind.i64.wrap ((q : Int) + (j : Int)) = ((q + j : Nat) : Int) := by rw [i64_of (by omega) (by omega)]; omega
      rw [e0, hq, e5]
      simp only [d_t (show (j : Int) ≥ 0 by omega), d_0, cond_true, Int.toNat_natCast, hget j hlt]
      obtain ⟨u, hu⟩ : ∃ u : Nat, v = u := ⟨v.toNat, by omega⟩
      have hor := or_byte (m := u) (c := (t[j]'hlt).toNat) (by omega) e3
      rw [← hu] at hor
      rw [i64_of (n := v * 2 ^ 8) (by omega) (by omega), i64_of (n := (((t[j]'hlt).toNat : Nat) : Int)) (by omega) (by omega), show v * 2 ^ 8 = v * 256 from rfl, hor, i64_of (n := ((u * 256 + (t[j]'hlt).toNat : Nat) : Int)) (by omega) (by omega), i64_of (n := (j : Int) - 1) (by omega) (by omega)]
      rw [← hq]
      refine hk (j, ((u * 256 + (t[j]'hlt).toNat : Nat) : Int)) ⟨by simp only; omega, ?_⟩ (by simp only; omega)
      simp only
      rw [List.drop_eq_getElem_cons hlt, leV_cons, ← hv]
      omega
  · rw [d_f hl] at h
    rw [d_t (show (q : Int) + (m : Int) > (s.1.length : Int) by omega)]
    simp only [cond_false, cond_true, Bool.and_false] at h ⊢
    exact h

def eFl : Nat → RdD → List Nat
  | 0, _ => []
  | c + 1, s => bif s.2.2 then fromV (wordV s 4) :: eFl c (wordN s 4) else []
def eFlN : Nat → RdD → RdD
  | 0, s => s
  | c + 1, s => bif s.2.2 then eFlN c (wordN s 4) else s
def iFl : Nat → RdD → List Nat
  | 0, _ => []
  | c + 1, s => fromV (leV (textR s 4)) :: iFl c (textN s 4)
def iFlN : Nat → RdD → RdD
  | 0, s => s
  | c + 1, s => iFlN c (textN s 4)
--B eFlV RdD → Int → List Nat
def eFlV (s : RdD) (k : Int) : List Nat := eFl k.toNat s
--B eFlS RdD → Int → RdD
def eFlS (s : RdD) (k : Int) : RdD := eFlN k.toNat s

/-! (*spec.l10Eyes).floats -/
noncomputable def a_spec_l10Eyes_floats : Nat → Option Ann := fun n => bif Nat.beq n 3 then some ⟨[0,1,5,6],1,true⟩ else none
noncomputable def c_spec_l10Eyes_floats : Ctx := mkC Try.prog tyT [(40, s_spec_l01From)] [] [(18, s_spec_l10Eyes_word)] 28 a_spec_l10Eyes_floats 1
noncomputable def gp_spec_l10Eyes_floats : List (List (Option Ty)) := List.map giveR [.cell (.own tF)]
noncomputable def fr_spec_l10Eyes_floats_3 (s : RdD) (k i : Int) (xs : List Nat) : Fr := [(0, .ptr 0 0), (1, .int .i64 k), (5, .obj 1 0), (6, .int .i64 i)]
noncomputable def hp_spec_l10Eyes_floats_3 (s : RdD) (k i : Int) (xs : List Nat) : Heap := [.box (enc tRd s), .sl 0 tF xs]
theorem r_spec_l10Eyes_floats_3 (s : RdD) (k i : Int) (xs : List Nat) (Kn : Fr → Heap → Prop) (K : V → Heap → Prop) : round c_spec_l10Eyes_floats ⟨[0,1,5,6],1,true⟩ (lb c_spec_l10Eyes_floats 3 Try.f19) (fr_spec_l10Eyes_floats_3 s k i xs) (hp_spec_l10Eyes_floats_3 s k i xs) Kn (lkG gp_spec_l10Eyes_floats c_spec_l10Eyes_floats 3 Try.f19 [.box []] K) =
  cond (decide (i < k))
    (cond (Prod.snd (Prod.snd s))
      (cond (posR s && (decide (0 ≤ 4) && decide (4 ≤ 4)))
        (cond (decide ((List.length xs + 1) * 4 ≤ 140737488355328))
          (Kn [(0, (.ptr 0 0)), (1, (.int .i64 (k))), (5, (.obj 1 0)), (6, (.int .i64 (IntKind.wrap IntKind.i64 (i + 1))))] [(.box [(.str (Prod.fst (wordN s 4))), (.int .i64 (Prod.fst (Prod.snd (wordN s 4)))), (.bool (Prod.snd (Prod.snd (wordN s 4))))]), (.sl 0 (.float .f32) (xs ++ [fromV (wordV s 4)]))])
          (False))
        (False))
      (K (.obj 1 0) [(.box [(.str (Prod.fst s)), (.int .i64 (Prod.fst (Prod.snd s))), (.bool (Prod.snd (Prod.snd s)))]), (.sl 0 (.float .f32) (xs))]))
    (K (.obj 1 0) [(.box [(.str (Prod.fst s)), (.int .i64 (Prod.fst (Prod.snd s))), (.bool (Prod.snd (Prod.snd s)))]), (.sl 0 (.float .f32) (xs))]) := by kernel_rfl
theorem w_spec_l10Eyes_floats (s : (tRd).den) (k : Int) (K : V → Heap → Prop) : wpFnG gp_spec_l10Eyes_floats c_spec_l10Eyes_floats Try.f19 (.ptr 0 0 :: encAs [.cell tI] (k, ())) [.box (enc tRd s)] K =
  LoopE c_spec_l10Eyes_floats ⟨[0, 1, 5, 6], 1, true⟩ (lb c_spec_l10Eyes_floats 3 Try.f19) [(0, (.ptr 0 0)), (1, (.int .i64 (k))), (5, (.obj 1 0)), (6, (.int .i64 0))] [(.box [(.str (Prod.fst s)), (.int .i64 (Prod.fst (Prod.snd s))), (.bool (Prod.snd (Prod.snd s)))]), (.sl 0 (.float .f32) ([]))] (lkG gp_spec_l10Eyes_floats c_spec_l10Eyes_floats 3 Try.f19 [.box []] K) := by kernel_rfl
noncomputable def s_spec_l10Eyes_floats : Sm := semPG tRd [.cell tI] [.cell (.own tF)] (fun s x => match x with | (k, _) => posR s && (decide (0 ≤ k) && decide (k ≤ 4))) fun s x => match x with | (k, _) => ((eFlV s k, ()), eFlS s k)
theorem ok_spec_l10Eyes_floats : FnOkL Try.prog 19 s_spec_l10Eyes_floats := fnOkO_boxg (fnOkO_runG (C := c_spec_l10Eyes_floats) gp_spec_l10Eyes_floats rfl mixed (.cons ok_spec_l01From .nil) .nil (.cons ok_spec_l10Eyes_word .nil) Try.func19 (by kernel_rfl)) rfl fun (s : (tRd).den) (x : ((Int) × Unit)) ws wf hg K h => by
  obtain ⟨k, ⟨⟩⟩ := x
  replace hg : (posR s && (decide (0 ≤ k) && decide (k ≤ 4))) = true := hg
  replace h : K (tup (valRs [.cell (.own tF)] ((eFlV s k, ())) 1)) (.box (enc tRd (eFlS s k)) :: thRs [.cell (.own tF)] ((eFlV s k, ()))) := h
  rw [w_spec_l10Eyes_floats s k K]
  simp only [Bool.and_eq_true, decide_eq_true_eq] at hg
  obtain ⟨g1, g2, g3⟩ := hg
  obtain ⟨m, rfl⟩ : ∃ m : Nat, k = m := ⟨k.toNat, by omega⟩
  unfold eFlV eFlS at h
  rw [Int.toNat_natCast] at h
  refine loop_run (σ := Nat × RdD × List Nat) (fun r => fr_spec_l10Eyes_floats_3 s m r.1 []) (fun r => hp_spec_l10Eyes_floats_3 r.2.1 m r.1 r.2.2) (fun r => r.1 ≤ m ∧ r.2.2.length ≤ r.1 ∧ posR r.2.1 = true ∧ r.2.2 ++ eFl (m - r.1) r.2.1 = eFl m s ∧ eFlN (m - r.1) r.2.1 = eFlN m s) (fun r => m - r.1) ?_ (0, s, []) ⟨Nat.zero_le _, Nat.le_refl _, g1, rfl, rfl⟩
  rintro ⟨i, u, xs⟩ ⟨hi, hl, hp, h1, h2⟩ Kn hk
  simp only at hi hl hp h1 h2 hk ⊢
  rw [show fr_spec_l10Eyes_floats_3 s m i [] = fr_spec_l10Eyes_floats_3 u m i xs from rfl, r_spec_l10Eyes_floats_3 u m i xs Kn K]
  rw [← h1, ← h2] at h
  by_cases hlt : i < m
  · obtain ⟨d, hd⟩ : ∃ d, m - i = d + 1 := ⟨m - i - 1, by omega⟩
    have hd2 : m - (i + 1) = d := by omega
    have hk1 := hk (i + 1, wordN u 4, xs ++ [fromV (wordV u 4)])
    rw [hd] at h h1 h2
    simp only [hd2] at hk1
    simp only [eFl, eFlN] at h h1 h2
    cases e : u.2.2 with
    | false =>
      simp only [e, cond_false, List.append_nil] at h ⊢
      rw [d_lt hlt]
      simp only [cond_true]
      rw [← e]
      exact h
    | true =>
      simp only [e, cond_true] at h1 h2 ⊢
      simp only [d_lt hlt, cond_true]
      refine cond_intro (by rw [hp]; rfl) (cond_intro (decide_eq_true (by omega)) ?_)
      rw [i64_of (show -9223372036854775808 ≤ (i : Int) + 1 by omega) (by omega)]
      exact hk1 ⟨hlt, by simp only [List.length_append, List.length_cons, List.length_nil]; omega, posR_word hp (by omega), by rw [List.append_assoc]; exact h1, h2⟩ (by first | omega | (simp only; omega))
  · have : i = m := by omega
    subst this
    rw [Nat.sub_self] at h
    simp only [eFl, eFlN, List.append_nil] at h
    rw [d_nlt hlt, cond_false]
    exact h

theorem posR_eFl : ∀ (c : Nat) {s : RdD}, posR s = true → posR (eFlN c s) = true
  | 0, _, h => h
  | c + 1, s, h => by
    unfold eFlN
    cases s.2.2 with
    | false => exact h
    | true => exact posR_eFl c (posR_word h (by omega))
theorem posR_iFl : ∀ (c : Nat) {s : RdD}, posR s = true → posR (iFlN c s) = true
  | 0, _, h => h
  | c + 1, s, h => posR_iFl c (posR_text h (by omega))
def eNode (s : RdD) : NodeD := (wordV s 1, wordV (wordN s 1) 1, wordV (wordN (wordN s 1) 1) 1, eFlV (wordN (wordN (wordN s 1) 1) 1) (kindN (wordV s 1)))
def eNodeS (s : RdD) : RdD := eFlS (wordN (wordN (wordN s 1) 1) 1) (kindN (wordV s 1))
def eGo : Nat → RdD → List NodeD × RdD
  | 0, s => ([], s)
  | c + 1, s => bif s.2.2 then (eNode s :: (eGo c (eNodeS s)).1, (eGo c (eNodeS s)).2) else ([], s)
--B eShV RdD → List (Int × Int × Int × List Nat)
def eShV (s : RdD) : List NodeD := (eGo (wordV s 1).toNat (wordN s 1)).1
--B eShS RdD → RdD
def eShS (s : RdD) : RdD := (eGo (wordV s 1).toNat (wordN s 1)).2
def iBad (s : RdD) : RdD := ((textN (textN (textN s 1) 1) 1).1, (textN (textN (textN s 1) 1) 1).2.1, (textN (textN (textN s 1) 1) 1).2.2 || !isK (leV (textR s 1)))
def iNode (s : RdD) : NodeD := (leV (textR s 1), leV (textR (textN s 1) 1), leV (textR (textN (textN s 1) 1) 1), iFl (kindN (leV (textR s 1))).toNat (iBad s))
def iNodeS (s : RdD) : RdD := iFlN (kindN (leV (textR s 1))).toNat (iBad s)
def iGo : Nat → RdD → List NodeD × RdD
  | 0, s => ([], s)
  | c + 1, s => bif (iNodeS s).2.2 then ([], iNodeS s) else (iNode s :: (iGo c (iNodeS s)).1, (iGo c (iNodeS s)).2)
--B iShV RdD → List (Int × Int × Int × List Nat)
def iShV (s : RdD) : List NodeD := (iGo (leV (textR s 1)).toNat (textN s 1)).1
--B iShS RdD → RdD
def iShS (s : RdD) : RdD := (iGo (leV (textR s 1)).toNat (textN s 1)).2
theorem posR_iBad {s : RdD} (h : posR s = true) : posR (iBad s) = true := by
  have h1 := posR_text (k := 1) (posR_text (k := 1) (posR_text (k := 1) h (by omega)) (by omega)) (by omega)
  rw [posR_iff] at h1 ⊢
  exact h1
theorem posR_eNode {s : RdD} (h : posR s = true) : posR (eNodeS s) = true :=
  posR_eFl _ (posR_word (k := 1) (posR_word (k := 1) (posR_word (k := 1) h (by omega)) (by omega)) (by omega))
theorem posR_iNode {s : RdD} (h : posR s = true) : posR (iNodeS s) = true := posR_iFl _ (posR_iBad h)

/-! (*spec.l10Eyes).shape -/
noncomputable def a_spec_l10Eyes_shape : Nat → Option Ann := fun n => bif Nat.beq n 3 then some ⟨[0,2,3,4],1,true⟩ else none
noncomputable def c_spec_l10Eyes_shape : Ctx := mkC Try.prog tyT [(20, s_spec_l02Count)] [] [(18, s_spec_l10Eyes_word), (19, s_spec_l10Eyes_floats)] 42 a_spec_l10Eyes_shape 1 false [] true
noncomputable def gp_spec_l10Eyes_shape : List (List (Option Ty)) := List.map giveR [.agg [.deep tN]]
noncomputable def fr_spec_l10Eyes_shape_3 (s : RdD) (k : Int) (ns : List NodeD) : Fr := [(0, .ptr 0 0), (2, .ptr 1 0), (3, .ptr 2 0), (4, .int .i64 k)]
noncomputable def hp_spec_l10Eyes_shape_3 (s : RdD) (k : Int) (ns : List NodeD) : Heap := [.box (enc tRd s), .box [.nils], .box [.dob 3 0], .dp 0 0 tN ns]
theorem r_spec_l10Eyes_shape_3 (s : RdD) (k : Int) (ns : List NodeD) (Kn : Fr → Heap → Prop) (K : V → Heap → Prop) : round c_spec_l10Eyes_shape ⟨[0,2,3,4],1,true⟩ (lb c_spec_l10Eyes_shape 3 Try.f9) (fr_spec_l10Eyes_shape_3 s k ns) (hp_spec_l10Eyes_shape_3 s k ns) Kn (lkG gp_spec_l10Eyes_shape c_spec_l10Eyes_shape 3 Try.f9 [.box []] K) =
  cond (decide (k > 0))
    (cond (Prod.snd (Prod.snd s))
      (cond (posR s && (decide (0 ≤ 1) && decide (1 ≤ 4)))
        (cond (posR (wordN s 1) && (decide (0 ≤ 1) && decide (1 ≤ 4)))
          (cond (posR (wordN (wordN s 1) 1) && (decide (0 ≤ 1) && decide (1 ≤ 4)))
            (cond (posR (wordN (wordN (wordN s 1) 1) 1) && (decide (0 ≤ kindN (wordV s 1)) && decide (kindN (wordV s 1) ≤ 4)))
              (cond (decide ((List.length ns + 1) * 48 ≤ 140737488355328))
                (Kn [(0, (.ptr 0 0)), (2, (.ptr 1 0)), (3, (.ptr 2 0)), (4, (.int .i64 (IntKind.wrap IntKind.i64 (k - 1))))] [(.box [(.str (Prod.fst (eFlS (wordN (wordN (wordN s 1) 1) 1) (kindN (wordV s 1))))), (.int .i64 (Prod.fst (Prod.snd (eFlS (wordN (wordN (wordN s 1) 1) 1) (kindN (wordV s 1)))))), (.bool (Prod.snd (Prod.snd (eFlS (wordN (wordN (wordN s 1) 1) 1) (kindN (wordV s 1))))))]), (.box [.nils]), (.box [(.dob 3 0)]), (.dp 0 0 (.pair (.int .i64) (.pair (.int .i64) (.pair (.int .i64) (.slice (.float .f32))))) (ns ++ [(wordV s 1, wordV (wordN s 1) 1, wordV (wordN (wordN s 1) 1) 1, eFlV (wordN (wordN (wordN s 1) 1) 1) (kindN (wordV s 1)))]))])
                (False))
              (False))
            (False))
          (False))
        (False))
      (K (.agg [(.dob 1 0)]) [(.box [(.str (Prod.fst s)), (.int .i64 (Prod.fst (Prod.snd s))), (.bool (Prod.snd (Prod.snd s)))]), (.dp 0 0 (.pair (.int .i64) (.pair (.int .i64) (.pair (.int .i64) (.slice (.float .f32))))) (ns))]))
    (K (.agg [(.dob 1 0)]) [(.box [(.str (Prod.fst s)), (.int .i64 (Prod.fst (Prod.snd s))), (.bool (Prod.snd (Prod.snd s)))]), (.dp 0 0 (.pair (.int .i64) (.pair (.int .i64) (.pair (.int .i64) (.slice (.float .f32))))) (ns))]) := by kernel_rfl
theorem w_spec_l10Eyes_shape (s : (tRd).den) (K : V → Heap → Prop) : wpFnG gp_spec_l10Eyes_shape c_spec_l10Eyes_shape Try.f9 (.ptr 0 0 :: encAs [] ()) [.box (enc tRd s)] K =
  cond (posR s && (decide (0 ≤ 1) && decide (1 ≤ 4)))
    (LoopE c_spec_l10Eyes_shape ⟨[0, 2, 3, 4], 1, true⟩ (lb c_spec_l10Eyes_shape 3 Try.f9) [(0, (.ptr 0 0)), (2, (.ptr 1 0)), (3, (.ptr 2 0)), (4, (.int .i64 (wordV s 1)))] [(.box [(.str (Prod.fst (wordN s 1))), (.int .i64 (Prod.fst (Prod.snd (wordN s 1)))), (.bool (Prod.snd (Prod.snd (wordN s 1))))]), (.box [.nils]), (.box [(.dob 3 0)]), (.dp 0 0 (.pair (.int .i64) (.pair (.int .i64) (.pair (.int .i64) (.slice (.float .f32))))) ([]))] (lkG gp_spec_l10Eyes_shape c_spec_l10Eyes_shape 3 Try.f9 [.box []] K))
    (False) := by kernel_rfl
noncomputable def s_spec_l10Eyes_shape : Sm := semPG tRd [] [.agg [.deep tN]] (fun s x => match x with | _ => posR s) fun s x => match x with | _ => (((eShV s, ()), ()), eShS s)
theorem ok_spec_l10Eyes_shape : FnOkL Try.prog 9 s_spec_l10Eyes_shape := fnOkO_boxg (fnOkO_runG (C := c_spec_l10Eyes_shape) gp_spec_l10Eyes_shape rfl mixed (.cons ok_spec_l02Count .nil) .nil (.cons ok_spec_l10Eyes_word (.cons ok_spec_l10Eyes_floats .nil)) Try.func9 (by kernel_rfl)) rfl fun (s : (tRd).den) (x : Unit) ws wf hg K h => by
  obtain ⟨⟩ := x
  replace hg : (posR s) = true := hg
  replace h : K (tup (valRs [.agg [.deep tN]] (((eShV s, ()), ())) 1)) (.box (enc tRd (eShS s)) :: thRs [.agg [.deep tN]] (((eShV s, ()), ()))) := h
  rw [w_spec_l10Eyes_shape s  K]
  rw [show (posR s && (decide (0 ≤ 1) && decide (1 ≤ 4))) = true by rw [hg]; rfl, cond_true]
  obtain ⟨w1, w2⟩ := wordV_1 s
  have hp1 := posR_word (k := 1) hg (by omega)
  unfold eShV eShS at h
  obtain ⟨m, hm⟩ : ∃ m : Nat, wordV s 1 = m := ⟨(wordV s 1).toNat, by omega⟩
  rw [hm, Int.toNat_natCast] at h
  rw [hm] at w2 ⊢
  refine loop_run (σ := Nat × RdD × List NodeD) (fun r => fr_spec_l10Eyes_shape_3 s r.1 []) (fun r => hp_spec_l10Eyes_shape_3 r.2.1 0 r.2.2) (fun r => r.2.2.length + r.1 ≤ 255 ∧ posR r.2.1 = true ∧ r.2.2 ++ (eGo r.1 r.2.1).1 = (eGo m (wordN s 1)).1 ∧ (eGo r.1 r.2.1).2 = (eGo m (wordN s 1)).2) (fun r => r.1) ?_ (m, wordN s 1, []) ⟨by simp only [List.length_nil]; omega, hp1, rfl, rfl⟩
  rintro ⟨j, u, ns⟩ ⟨hl, hp, h1, h2⟩ Kn hk
  simp only at hl hp h1 h2 hk ⊢
  rw [show fr_spec_l10Eyes_shape_3 s j [] = fr_spec_l10Eyes_shape_3 u j ns from rfl, show hp_spec_l10Eyes_shape_3 u 0 ns = hp_spec_l10Eyes_shape_3 u j ns from rfl, r_spec_l10Eyes_shape_3 u j ns Kn K]
  rw [← h1, ← h2] at h
  cases j with
  | zero =>
    rw [d_f (show ¬ ((0 : Nat) : Int) > 0 by omega), cond_false]
    simp only [eGo, List.append_nil] at h
    exact h
  | succ j =>
    have hk1 := hk (j, eNodeS u, ns ++ [eNode u])
    simp only [eGo] at h h1 h2
    rw [d_t (show ((j + 1 : Nat) : Int) > 0 by omega), cond_true]
    cases e : u.2.2 with
    | false =>
      simp only [e, cond_false, List.append_nil] at h ⊢
      rw [← e]
      exact h
    | true =>
      simp only [e, cond_true] at h1 h2 ⊢
      have q1 := posR_word (k := 1) hp (by omega)
      have q2 := posR_word (k := 1) q1 (by omega)
      have q3 := posR_word (k := 1) q2 (by omega)
      have kr := kindN_range (wordV u 1)
      refine cond_intro (by rw [hp]; rfl) (cond_intro (by rw [q1]; rfl) (cond_intro (by rw [q2]; rfl) (cond_intro (by rw [q3, d_t kr.1, d_t kr.2]; rfl) (cond_intro (decide_eq_true (by omega)) ?_))))
      rw [i64_of (n := ((j + 1 : Nat) : Int) - 1) (by omega) (by omega), show ((j + 1 : Nat) : Int) - 1 = (j : Int) by omega]
      exact hk1 ⟨by simp only [List.length_append, List.length_cons, List.length_nil]; omega, posR_eNode hp, by rw [List.append_assoc]; exact h1, h2⟩ (by simp only; omega)

def mO : List NodeD → Int
  | [] => 0
  | _ :: _ => 1
def mI : List NodeD → List Nat → Int
  | [], [] => 0
  | [], _ :: _ => 1
  | _ :: _, [] => 2
  | _ :: _, _ :: _ => 3

/-! (*impl.reader).shape -/
noncomputable def a_impl_reader_shape : Nat → Option Ann := fun n => bif Nat.beq n 3 then some ⟨[0,2,3,9,10],1,true⟩ else bif Nat.beq n 10 then some ⟨[0,2,3,4,9,10,39,40],1,true⟩ else none
noncomputable def c_impl_reader_shape : Ctx := mkC Try.prog tyT [(27, s_impl_ruleOf)] [] [(26, s_impl_reader_number), (28, s_impl_reader_float)] 62 a_impl_reader_shape 1 false [] true
noncomputable def gp_impl_reader_shape : List (List (Option Ty)) := List.map giveR [.agg [.deep tN]]
noncomputable def fr_impl_reader_shape_3 (s : RdD) (ns : List NodeD) (cn i m : Int) : Fr := [(0, .ptr 0 0), (2, .ptr 1 0), (3, .ptr 2 0), (9, .int .i64 cn), (10, .int .i64 i)]
noncomputable def hp_impl_reader_shape_3 (s : RdD) (ns : List NodeD) (cn i m : Int) : Heap := (match m with | 0 => [.box (enc tRd s), .box [.nils], .box [.nils]] | _ => [.box (enc tRd s), .box [.nils], .box [.dob 3 0], .dp 0 0 tN ns])
theorem r_impl_reader_shape_3_0 (s : RdD) (ns : List NodeD) (cn i : Int) (Kn : Fr → Heap → Prop) (K : V → Heap → Prop) : round c_impl_reader_shape ⟨[0,2,3,9,10],1,true⟩ (lb c_impl_reader_shape 3 Try.f12) (fr_impl_reader_shape_3 s ns cn i (0 : Int)) (hp_impl_reader_shape_3 s ns cn i (0 : Int)) Kn (lkG gp_impl_reader_shape c_impl_reader_shape 3 Try.f12 [.box []] K) =
  cond (decide (i < cn))
    (cond (posR s && (decide (0 ≤ 1) && decide (1 ≤ 4)))
      (cond (posR (textN s 1) && (decide (0 ≤ 1) && decide (1 ≤ 4)))
        (cond (posR (textN (textN s 1) 1) && (decide (0 ≤ 1) && decide (1 ≤ 4)))
          (cond (Prod.snd (Prod.snd (textN (textN (textN s 1) 1) 1)))
            (LoopE c_impl_reader_shape ⟨[0, 2, 3, 4, 9, 10, 39, 40], 1, true⟩ (pathB c_impl_reader_shape [3, 10] (bodyOf Try.f12)) [(0, (.ptr 0 0)), (2, (.ptr 1 0)), (3, (.ptr 2 0)), (4, (.ptr 3 0)), (9, (.int .i64 (cn))), (10, (.int .i64 (i))), (39, (.int .i64 (kindN (leV (textR s 1))))), (40, (.int .i64 0))] [(.box [(.str (Prod.fst (textN (textN (textN s 1) 1) 1))), (.int .i64 (Prod.fst (Prod.snd (textN (textN (textN s 1) 1) 1)))), (.bool true)]), (.box [.nils]), (.box [.nils]), (.box [(.int .i64 (leV (textR s 1))), (.int .i64 (leV (textR (textN s 1) 1))), (.int .i64 (leV (textR (textN (textN s 1) 1) 1))), .nils])] (pathK c_impl_reader_shape [(3, ⟨[0,2,3,9,10],1,true⟩, Kn)] 10 (bodyOf Try.f12) (kFnG gp_impl_reader_shape c_impl_reader_shape Try.f12 [.box []] K)))
            (LoopE c_impl_reader_shape ⟨[0, 2, 3, 4, 9, 10, 39, 40], 1, true⟩ (pathB c_impl_reader_shape [3, 10] (bodyOf Try.f12)) [(0, (.ptr 0 0)), (2, (.ptr 1 0)), (3, (.ptr 2 0)), (4, (.ptr 3 0)), (9, (.int .i64 (cn))), (10, (.int .i64 (i))), (39, (.int .i64 (kindN (leV (textR s 1))))), (40, (.int .i64 0))] [(.box [(.str (Prod.fst (textN (textN (textN s 1) 1) 1))), (.int .i64 (Prod.fst (Prod.snd (textN (textN (textN s 1) 1) 1)))), (.bool (!isK (leV (textR s 1))))]), (.box [.nils]), (.box [.nils]), (.box [(.int .i64 (leV (textR s 1))), (.int .i64 (leV (textR (textN s 1) 1))), (.int .i64 (leV (textR (textN (textN s 1) 1) 1))), .nils])] (pathK c_impl_reader_shape [(3, ⟨[0,2,3,9,10],1,true⟩, Kn)] 10 (bodyOf Try.f12) (kFnG gp_impl_reader_shape c_impl_reader_shape Try.f12 [.box []] K))))
          (False))
        (False))
      (False))
    (K (.agg [(.dob 1 0)]) [(.box [(.str (Prod.fst s)), (.int .i64 (Prod.fst (Prod.snd s))), (.bool (Prod.snd (Prod.snd s)))]), (.dp 0 0 (.pair (.int .i64) (.pair (.int .i64) (.pair (.int .i64) (.slice (.float .f32))))) ([]))]) := by kernel_rfl
theorem r_impl_reader_shape_3_1 (s : RdD) (ns : List NodeD) (cn i : Int) (Kn : Fr → Heap → Prop) (K : V → Heap → Prop) : round c_impl_reader_shape ⟨[0,2,3,9,10],1,true⟩ (lb c_impl_reader_shape 3 Try.f12) (fr_impl_reader_shape_3 s ns cn i (1 : Int)) (hp_impl_reader_shape_3 s ns cn i (1 : Int)) Kn (lkG gp_impl_reader_shape c_impl_reader_shape 3 Try.f12 [.box []] K) =
  cond (decide (i < cn))
    (cond (posR s && (decide (0 ≤ 1) && decide (1 ≤ 4)))
      (cond (posR (textN s 1) && (decide (0 ≤ 1) && decide (1 ≤ 4)))
        (cond (posR (textN (textN s 1) 1) && (decide (0 ≤ 1) && decide (1 ≤ 4)))
          (cond (Prod.snd (Prod.snd (textN (textN (textN s 1) 1) 1)))
            (LoopE c_impl_reader_shape ⟨[0, 2, 3, 4, 9, 10, 39, 40], 1, true⟩ (pathB c_impl_reader_shape [3, 10] (bodyOf Try.f12)) [(0, (.ptr 0 0)), (2, (.ptr 1 0)), (3, (.ptr 2 0)), (4, (.ptr 3 0)), (9, (.int .i64 (cn))), (10, (.int .i64 (i))), (39, (.int .i64 (kindN (leV (textR s 1))))), (40, (.int .i64 0))] [(.box [(.str (Prod.fst (textN (textN (textN s 1) 1) 1))), (.int .i64 (Prod.fst (Prod.snd (textN (textN (textN s 1) 1) 1)))), (.bool true)]), (.box [.nils]), (.box [(.dob 4 0)]), (.box [(.int .i64 (leV (textR s 1))), (.int .i64 (leV (textR (textN s 1) 1))), (.int .i64 (leV (textR (textN (textN s 1) 1) 1))), .nils]), (.dp 0 0 (.pair (.int .i64) (.pair (.int .i64) (.pair (.int .i64) (.slice (.float .f32))))) (ns))] (pathK c_impl_reader_shape [(3, ⟨[0,2,3,9,10],1,true⟩, Kn)] 10 (bodyOf Try.f12) (kFnG gp_impl_reader_shape c_impl_reader_shape Try.f12 [.box []] K)))
            (LoopE c_impl_reader_shape ⟨[0, 2, 3, 4, 9, 10, 39, 40], 1, true⟩ (pathB c_impl_reader_shape [3, 10] (bodyOf Try.f12)) [(0, (.ptr 0 0)), (2, (.ptr 1 0)), (3, (.ptr 2 0)), (4, (.ptr 3 0)), (9, (.int .i64 (cn))), (10, (.int .i64 (i))), (39, (.int .i64 (kindN (leV (textR s 1))))), (40, (.int .i64 0))] [(.box [(.str (Prod.fst (textN (textN (textN s 1) 1) 1))), (.int .i64 (Prod.fst (Prod.snd (textN (textN (textN s 1) 1) 1)))), (.bool (!isK (leV (textR s 1))))]), (.box [.nils]), (.box [(.dob 4 0)]), (.box [(.int .i64 (leV (textR s 1))), (.int .i64 (leV (textR (textN s 1) 1))), (.int .i64 (leV (textR (textN (textN s 1) 1) 1))), .nils]), (.dp 0 0 (.pair (.int .i64) (.pair (.int .i64) (.pair (.int .i64) (.slice (.float .f32))))) (ns))] (pathK c_impl_reader_shape [(3, ⟨[0,2,3,9,10],1,true⟩, Kn)] 10 (bodyOf Try.f12) (kFnG gp_impl_reader_shape c_impl_reader_shape Try.f12 [.box []] K))))
          (False))
        (False))
      (False))
    (K (.agg [(.dob 1 0)]) [(.box [(.str (Prod.fst s)), (.int .i64 (Prod.fst (Prod.snd s))), (.bool (Prod.snd (Prod.snd s)))]), (.dp 0 0 (.pair (.int .i64) (.pair (.int .i64) (.pair (.int .i64) (.slice (.float .f32))))) (ns))]) := by kernel_rfl
noncomputable def fr_impl_reader_shape_10 (s : RdD) (ns : List NodeD) (cn i q1 q2 q3 c j m : Int) (xs : List Nat) : Fr := [(0, .ptr 0 0), (2, .ptr 1 0), (3, .ptr 2 0), (4, .ptr 3 0), (9, .int .i64 cn), (10, .int .i64 i), (39, .int .i64 c), (40, .int .i64 j)]
noncomputable def hp_impl_reader_shape_10 (s : RdD) (ns : List NodeD) (cn i q1 q2 q3 c j m : Int) (xs : List Nat) : Heap := (match m with | 0 => [.box (enc tRd s), .box [.nils], .box [.nils], .box [.int .i64 q1, .int .i64 q2, .int .i64 q3, .nils]] | 1 => [.box (enc tRd s), .box [.nils], .box [.nils], .box [.int .i64 q1, .int .i64 q2, .int .i64 q3, .obj 4 0], .sl 0 tF xs] | 2 => [.box (enc tRd s), .box [.nils], .box [.dob 4 0], .box [.int .i64 q1, .int .i64 q2, .int .i64 q3, .nils], .dp 0 0 tN ns] | _ => [.box (enc tRd s), .box [.nils], .box [.dob 4 0], .box [.int .i64 q1, .int .i64 q2, .int .i64 q3, .obj 5 0], .dp 0 0 tN ns, .sl 0 tF xs])
theorem r_impl_reader_shape_10_0 (s : RdD) (ns : List NodeD) (cn i q1 q2 q3 c j : Int) (xs : List Nat) (Kn3 : Fr → Heap → Prop) (Kn : Fr → Heap → Prop) (K : V → Heap → Prop) : round c_impl_reader_shape ⟨[0,2,3,4,9,10,39,40],1,true⟩ (pathB c_impl_reader_shape [3, 10] (bodyOf Try.f12)) (fr_impl_reader_shape_10 s ns cn i q1 q2 q3 c j (0 : Int) xs) (hp_impl_reader_shape_10 s ns cn i q1 q2 q3 c j (0 : Int) xs) Kn (pathK c_impl_reader_shape [(3, ⟨[0,2,3,9,10],1,true⟩, Kn3)] 10 (bodyOf Try.f12) (kFnG gp_impl_reader_shape c_impl_reader_shape Try.f12 [.box []] K)) =
  cond (decide (j < c))
    (cond (posR s)
      (Kn [(0, (.ptr 0 0)), (2, (.ptr 1 0)), (3, (.ptr 2 0)), (4, (.ptr 3 0)), (9, (.int .i64 (cn))), (10, (.int .i64 (i))), (39, (.int .i64 (c))), (40, (.int .i64 (IntKind.wrap IntKind.i64 (j + 1))))] [(.box [(.str (Prod.fst (textN s 4))), (.int .i64 (Prod.fst (Prod.snd (textN s 4)))), (.bool (Prod.snd (Prod.snd (textN s 4))))]), (.box [.nils]), (.box [.nils]), (.box [(.int .i64 (q1)), (.int .i64 (q2)), (.int .i64 (q3)), (.obj 4 0)]), (.sl 0 (.float .f32) ([fromV (leV (textR s 4))]))])
      (False))
    (cond (Prod.snd (Prod.snd s))
      (K (.agg [(.dob 1 0)]) [(.box [(.str (Prod.fst s)), (.int .i64 (Prod.fst (Prod.snd s))), (.bool (Prod.snd (Prod.snd s)))]), (.dp 0 0 (.pair (.int .i64) (.pair (.int .i64) (.pair (.int .i64) (.slice (.float .f32))))) ([]))])
      (Kn3 [(0, (.ptr 0 0)), (2, (.ptr 1 0)), (3, (.ptr 2 0)), (9, (.int .i64 (cn))), (10, (.int .i64 (IntKind.wrap IntKind.i64 (i + 1))))] [(.box [(.str (Prod.fst s)), (.int .i64 (Prod.fst (Prod.snd s))), (.bool (Prod.snd (Prod.snd s)))]), (.box [.nils]), (.box [(.dob 3 0)]), (.dp 0 0 (.pair (.int .i64) (.pair (.int .i64) (.pair (.int .i64) (.slice (.float .f32))))) ([(q1, q2, q3, [])]))])) := by kernel_rfl
theorem r_impl_reader_shape_10_1 (s : RdD) (ns : List NodeD) (cn i q1 q2 q3 c j : Int) (xs : List Nat) (Kn3 : Fr → Heap → Prop) (Kn : Fr → Heap → Prop) (K : V → Heap → Prop) : round c_impl_reader_shape ⟨[0,2,3,4,9,10,39,40],1,true⟩ (pathB c_impl_reader_shape [3, 10] (bodyOf Try.f12)) (fr_impl_reader_shape_10 s ns cn i q1 q2 q3 c j (1 : Int) xs) (hp_impl_reader_shape_10 s ns cn i q1 q2 q3 c j (1 : Int) xs) Kn (pathK c_impl_reader_shape [(3, ⟨[0,2,3,9,10],1,true⟩, Kn3)] 10 (bodyOf Try.f12) (kFnG gp_impl_reader_shape c_impl_reader_shape Try.f12 [.box []] K)) =
  cond (decide (j < c))
    (cond (posR s)
      (cond (decide ((List.length xs + 1) * 4 ≤ 140737488355328))
        (Kn [(0, (.ptr 0 0)), (2, (.ptr 1 0)), (3, (.ptr 2 0)), (4, (.ptr 3 0)), (9, (.int .i64 (cn))), (10, (.int .i64 (i))), (39, (.int .i64 (c))), (40, (.int .i64 (IntKind.wrap IntKind.i64 (j + 1))))] [(.box [(.str (Prod.fst (textN s 4))), (.int .i64 (Prod.fst (Prod.snd (textN s 4)))), (.bool (Prod.snd (Prod.snd (textN s 4))))]), (.box [.nils]), (.box [.nils]), (.box [(.int .i64 (q1)), (.int .i64 (q2)), (.int .i64 (q3)), (.obj 4 0)]), (.sl 0 (.float .f32) (xs ++ [fromV (leV (textR s 4))]))])
        (False))
      (False))
    (cond (Prod.snd (Prod.snd s))
      (K (.agg [(.dob 1 0)]) [(.box [(.str (Prod.fst s)), (.int .i64 (Prod.fst (Prod.snd s))), (.bool (Prod.snd (Prod.snd s)))]), (.dp 0 0 (.pair (.int .i64) (.pair (.int .i64) (.pair (.int .i64) (.slice (.float .f32))))) ([]))])
      (Kn3 [(0, (.ptr 0 0)), (2, (.ptr 1 0)), (3, (.ptr 2 0)), (9, (.int .i64 (cn))), (10, (.int .i64 (IntKind.wrap IntKind.i64 (i + 1))))] [(.box [(.str (Prod.fst s)), (.int .i64 (Prod.fst (Prod.snd s))), (.bool (Prod.snd (Prod.snd s)))]), (.box [.nils]), (.box [(.dob 3 0)]), (.dp 0 0 (.pair (.int .i64) (.pair (.int .i64) (.pair (.int .i64) (.slice (.float .f32))))) ([(q1, q2, q3, xs)]))])) := by kernel_rfl
theorem r_impl_reader_shape_10_2 (s : RdD) (ns : List NodeD) (cn i q1 q2 q3 c j : Int) (xs : List Nat) (Kn3 : Fr → Heap → Prop) (Kn : Fr → Heap → Prop) (K : V → Heap → Prop) : round c_impl_reader_shape ⟨[0,2,3,4,9,10,39,40],1,true⟩ (pathB c_impl_reader_shape [3, 10] (bodyOf Try.f12)) (fr_impl_reader_shape_10 s ns cn i q1 q2 q3 c j (2 : Int) xs) (hp_impl_reader_shape_10 s ns cn i q1 q2 q3 c j (2 : Int) xs) Kn (pathK c_impl_reader_shape [(3, ⟨[0,2,3,9,10],1,true⟩, Kn3)] 10 (bodyOf Try.f12) (kFnG gp_impl_reader_shape c_impl_reader_shape Try.f12 [.box []] K)) =
  cond (decide (j < c))
    (cond (posR s)
      (Kn [(0, (.ptr 0 0)), (2, (.ptr 1 0)), (3, (.ptr 2 0)), (4, (.ptr 3 0)), (9, (.int .i64 (cn))), (10, (.int .i64 (i))), (39, (.int .i64 (c))), (40, (.int .i64 (IntKind.wrap IntKind.i64 (j + 1))))] [(.box [(.str (Prod.fst (textN s 4))), (.int .i64 (Prod.fst (Prod.snd (textN s 4)))), (.bool (Prod.snd (Prod.snd (textN s 4))))]), (.box [.nils]), (.box [(.dob 4 0)]), (.box [(.int .i64 (q1)), (.int .i64 (q2)), (.int .i64 (q3)), (.obj 5 0)]), (.dp 0 0 (.pair (.int .i64) (.pair (.int .i64) (.pair (.int .i64) (.slice (.float .f32))))) (ns)), (.sl 0 (.float .f32) ([fromV (leV (textR s 4))]))])
      (False))
    (cond (Prod.snd (Prod.snd s))
      (K (.agg [(.dob 1 0)]) [(.box [(.str (Prod.fst s)), (.int .i64 (Prod.fst (Prod.snd s))), (.bool (Prod.snd (Prod.snd s)))]), (.dp 0 0 (.pair (.int .i64) (.pair (.int .i64) (.pair (.int .i64) (.slice (.float .f32))))) (ns))])
      (cond (decide ((List.length ns + 1) * 48 ≤ 140737488355328))
        (Kn3 [(0, (.ptr 0 0)), (2, (.ptr 1 0)), (3, (.ptr 2 0)), (9, (.int .i64 (cn))), (10, (.int .i64 (IntKind.wrap IntKind.i64 (i + 1))))] [(.box [(.str (Prod.fst s)), (.int .i64 (Prod.fst (Prod.snd s))), (.bool (Prod.snd (Prod.snd s)))]), (.box [.nils]), (.box [(.dob 3 0)]), (.dp 0 0 (.pair (.int .i64) (.pair (.int .i64) (.pair (.int .i64) (.slice (.float .f32))))) (ns ++ [(q1, q2, q3, [])]))])
        (False))) := by kernel_rfl
theorem r_impl_reader_shape_10_3 (s : RdD) (ns : List NodeD) (cn i q1 q2 q3 c j : Int) (xs : List Nat) (Kn3 : Fr → Heap → Prop) (Kn : Fr → Heap → Prop) (K : V → Heap → Prop) : round c_impl_reader_shape ⟨[0,2,3,4,9,10,39,40],1,true⟩ (pathB c_impl_reader_shape [3, 10] (bodyOf Try.f12)) (fr_impl_reader_shape_10 s ns cn i q1 q2 q3 c j (3 : Int) xs) (hp_impl_reader_shape_10 s ns cn i q1 q2 q3 c j (3 : Int) xs) Kn (pathK c_impl_reader_shape [(3, ⟨[0,2,3,9,10],1,true⟩, Kn3)] 10 (bodyOf Try.f12) (kFnG gp_impl_reader_shape c_impl_reader_shape Try.f12 [.box []] K)) =
  cond (decide (j < c))
    (cond (posR s)
      (cond (decide ((List.length xs + 1) * 4 ≤ 140737488355328))
        (Kn [(0, (.ptr 0 0)), (2, (.ptr 1 0)), (3, (.ptr 2 0)), (4, (.ptr 3 0)), (9, (.int .i64 (cn))), (10, (.int .i64 (i))), (39, (.int .i64 (c))), (40, (.int .i64 (IntKind.wrap IntKind.i64 (j + 1))))] [(.box [(.str (Prod.fst (textN s 4))), (.int .i64 (Prod.fst (Prod.snd (textN s 4)))), (.bool (Prod.snd (Prod.snd (textN s 4))))]), (.box [.nils]), (.box [(.dob 4 0)]), (.box [(.int .i64 (q1)), (.int .i64 (q2)), (.int .i64 (q3)), (.obj 5 0)]), (.dp 0 0 (.pair (.int .i64) (.pair (.int .i64) (.pair (.int .i64) (.slice (.float .f32))))) (ns)), (.sl 0 (.float .f32) (xs ++ [fromV (leV (textR s 4))]))])
        (False))
      (False))
    (cond (Prod.snd (Prod.snd s))
      (K (.agg [(.dob 1 0)]) [(.box [(.str (Prod.fst s)), (.int .i64 (Prod.fst (Prod.snd s))), (.bool (Prod.snd (Prod.snd s)))]), (.dp 0 0 (.pair (.int .i64) (.pair (.int .i64) (.pair (.int .i64) (.slice (.float .f32))))) (ns))])
      (cond (decide ((List.length ns + 1) * 48 ≤ 140737488355328))
        (Kn3 [(0, (.ptr 0 0)), (2, (.ptr 1 0)), (3, (.ptr 2 0)), (9, (.int .i64 (cn))), (10, (.int .i64 (IntKind.wrap IntKind.i64 (i + 1))))] [(.box [(.str (Prod.fst s)), (.int .i64 (Prod.fst (Prod.snd s))), (.bool (Prod.snd (Prod.snd s)))]), (.box [.nils]), (.box [(.dob 3 0)]), (.dp 0 0 (.pair (.int .i64) (.pair (.int .i64) (.pair (.int .i64) (.slice (.float .f32))))) (ns ++ [(q1, q2, q3, xs)]))])
        (False))) := by kernel_rfl
theorem w_impl_reader_shape (s : (tRd).den) (K : V → Heap → Prop) : wpFnG gp_impl_reader_shape c_impl_reader_shape Try.f12 (.ptr 0 0 :: encAs [] ()) [.box (enc tRd s)] K =
  cond (posR s && (decide (0 ≤ 1) && decide (1 ≤ 4)))
    (LoopE c_impl_reader_shape ⟨[0, 2, 3, 9, 10], 1, true⟩ (lb c_impl_reader_shape 3 Try.f12) [(0, (.ptr 0 0)), (2, (.ptr 1 0)), (3, (.ptr 2 0)), (9, (.int .i64 (leV (textR s 1)))), (10, (.int .i64 0))] [(.box [(.str (Prod.fst (textN s 1))), (.int .i64 (Prod.fst (Prod.snd (textN s 1)))), (.bool (Prod.snd (Prod.snd (textN s 1))))]), (.box [.nils]), (.box [.nils])] (lkG gp_impl_reader_shape c_impl_reader_shape 3 Try.f12 [.box []] K))
    (False) := by kernel_rfl
noncomputable def s_impl_reader_shape : Sm := semPG tRd [] [.agg [.deep tN]] (fun s x => match x with | _ => posR s) fun s x => match x with | _ => (((iShV s, ()), ()), iShS s)
theorem ok_impl_reader_shape : FnOkL Try.prog 12 s_impl_reader_shape := fnOkO_boxg (fnOkO_runG (C := c_impl_reader_shape) gp_impl_reader_shape rfl mixed (.cons ok_impl_ruleOf .nil) .nil (.cons ok_impl_reader_number (.cons ok_impl_reader_float .nil)) Try.func12 (by kernel_rfl)) rfl fun (s : (tRd).den) (x : Unit) ws wf hg K h => by
  obtain ⟨⟩ := x
  replace hg : (posR s) = true := hg
  replace h : K (tup (valRs [.agg [.deep tN]] (((iShV s, ()), ())) 1)) (.box (enc tRd (iShS s)) :: thRs [.agg [.deep tN]] (((iShV s, ()), ()))) := h
  rw [w_impl_reader_shape s  K]
  rw [show (posR s && (decide (0 ≤ 1) && decide (1 ≤ 4))) = true by rw [hg]; rfl, cond_true]
  obtain ⟨w1, w2⟩ := leV_text1 s
  have hp1 := posR_text (k := 1) hg (by omega)
  unfold iShV iShS at h
  obtain ⟨m, hm⟩ : ∃ m : Nat, leV (textR s 1) = m := ⟨(leV (textR s 1)).toNat, by omega⟩
  rw [hm, Int.toNat_natCast] at h
  rw [hm] at w2 ⊢
  refine loop_run (σ := Nat × RdD × List NodeD) (fun r => fr_impl_reader_shape_3 s [] m r.1 0) (fun r => hp_impl_reader_shape_3 r.2.1 r.2.2 m 0 (mO r.2.2)) (fun r => r.1 ≤ m ∧ r.2.2.length ≤ r.1 ∧ posR r.2.1 = true ∧ r.2.2 ++ (iGo (m - r.1) r.2.1).1 = (iGo m (textN s 1)).1 ∧ (iGo (m - r.1) r.2.1).2 = (iGo m (textN s 1)).2) (fun r => m - r.1) ?_ (0, textN s 1, []) ⟨Nat.zero_le _, Nat.le_refl _, hp1, rfl, rfl⟩
  rintro ⟨i, u, ns⟩ ⟨hi, hl, hp, h1, h2⟩ Kn3 hk3
  simp only at hi hl hp h1 h2 hk3 ⊢
  rw [← h1, ← h2] at h
  have q1 := posR_text (k := 1) hp (by omega)
  have q2 := posR_text (k := 1) q1 (by omega)
  have kr := kindN_range (leV (textR u 1))
  by_cases hlt : i < m
  · obtain ⟨d, hd⟩ : ∃ d, m - i = d + 1 := ⟨m - i - 1, by omega⟩
    rw [hd] at h h1 h2
    simp only [iGo] at h h1 h2
    have hk1 := hk3 (i + 1, iNodeS u, ns ++ [iNode u])
    simp only [show m - (i + 1) = d by omega] at hk1
    obtain ⟨c, hc⟩ : ∃ c : Nat, kindN (leV (textR u 1)) = c := ⟨(kindN (leV (textR u 1))).toNat, by omega⟩
    have inner : LoopE c_impl_reader_shape ⟨[0, 2, 3, 4, 9, 10, 39, 40], 1, true⟩ (pathB c_impl_reader_shape [3, 10] (bodyOf Try.f12)) (fr_impl_reader_shape_10 u ns m i 0 0 0 c 0 0 []) (hp_impl_reader_shape_10 (iBad u) ns m i (leV (textR u 1)) (leV (textR (textN u 1) 1)) (leV (textR (textN (textN u 1) 1) 1)) c 0 (mI ns []) []) (pathK c_impl_reader_shape [(3, ⟨[0,2,3,9,10],1,true⟩, Kn3)] 10 (bodyOf Try.f12) (kFnG gp_impl_reader_shape c_impl_reader_shape Try.f12 [.box []] K)) := by
      have hN : iNode u = (leV (textR u 1), leV (textR (textN u 1) 1), leV (textR (textN (textN u 1) 1) 1), iFl c (iBad u)) := by unfold iNode; rw [hc]; rfl
      have hS : iNodeS u = iFlN c (iBad u) := by unfold iNodeS; rw [hc]; rfl
      generalize leV (textR u 1) = a1 at *
      generalize leV (textR (textN u 1) 1) = a2 at *
      generalize leV (textR (textN (textN u 1) 1) 1) = a3 at *
      refine loop_run (σ := Nat × RdD × List Nat) (fun r => fr_impl_reader_shape_10 u ns m i 0 0 0 c r.1 0 []) (fun r => hp_impl_reader_shape_10 r.2.1 ns m i a1 a2 a3 c 0 (mI ns r.2.2) r.2.2) (fun r => r.1 ≤ c ∧ r.2.2.length ≤ r.1 ∧ posR r.2.1 = true ∧ r.2.2 ++ iFl (c - r.1) r.2.1 = iFl c (iBad u) ∧ iFlN (c - r.1) r.2.1 = iFlN c (iBad u)) (fun r => c - r.1) ?_ (0, iBad u, []) ⟨Nat.zero_le _, Nat.le_refl _, posR_iBad hp, rfl, rfl⟩
      rintro ⟨j, v, xs⟩ ⟨hj, hx, hv, t1, t2⟩ Kn hk
      simp only at hj hx hv t1 t2 hk ⊢
      have goK : j < c → Kn (fr_impl_reader_shape_10 u ns m i 0 0 0 c ((j + 1 : Nat) : Int) 0 []) (hp_impl_reader_shape_10 (textN v 4) ns m i a1 a2 a3 c 0 (mI ns (xs ++ [fromV (leV (textR v 4))])) (xs ++ [fromV (leV (textR v 4))])) := fun hjc => by
        obtain ⟨d2, hd2⟩ : ∃ d2, c - j = d2 + 1 := ⟨c - j - 1, by omega⟩
        rw [hd2] at t1 t2
        simp only [iFl, iFlN] at t1 t2
        refine hk (j + 1, textN v 4, xs ++ [fromV (leV (textR v 4))]) ⟨hjc, by simp only [List.length_append, List.length_cons, List.length_nil]; omega, posR_text hv (by omega), ?_, ?_⟩ (by simp only; omega)
        · simp only [show c - (j + 1) = d2 by omega]
          rw [List.append_assoc]
          exact t1
        · simp only [show c - (j + 1) = d2 by omega]
          exact t2
      have endB : ¬ j < c → v.2.2 = true → K (.agg [.dob 1 0]) [.box (enc tRd v), .dp 0 0 tN ns] := fun hjc hb => by
        rw [show c - j = 0 by omega] at t1 t2
        simp only [iFl, iFlN, List.append_nil] at t1 t2
        rw [← t2] at hS
        rw [hS, hb] at h
        simp only [cond_true, List.append_nil] at h
        exact h
      have endK : ¬ j < c → v.2.2 = false → Kn3 (fr_impl_reader_shape_3 s [] m ((i + 1 : Nat) : Int) 0) (hp_impl_reader_shape_3 v (ns ++ [(a1, a2, a3, xs)]) m 0 (mO (ns ++ [(a1, a2, a3, xs)]))) := fun hjc hb => by
        rw [show c - j = 0 by omega] at t1 t2
        simp only [iFl, iFlN, List.append_nil] at t1 t2
        rw [← t2] at hS
        rw [← t1] at hN
        rw [hS, hb] at h1 h2
        rw [hN, hS] at hk1
        rw [hN] at h1
        simp only [cond_false] at h1 h2
        exact hk1 ⟨hlt, by simp only [List.length_append, List.length_cons, List.length_nil]; omega, hv, by rw [List.append_assoc]; exact h1, h2⟩ (by first | omega | (simp only; omega))
      have hw1 : IntKind.i64.wrap ((j : Int) + 1) = ((j + 1 : Nat) : Int) := by rw [i64_of (by omega) (by omega)]; omega
      have hw2 : IntKind.i64.wrap ((i : Int) + 1) = ((i + 1 : Nat) : Int) := by rw [i64_of (by omega) (by omega)]; omega
      cases ns with
      | nil =>
        cases xs with
        | nil =>
          refine Eq.mpr (r_impl_reader_shape_10_0 v [] m i a1 a2 a3 c j [] Kn3 Kn K) ?_
          rw [hw1, hw2, hv]
          by_cases hjc : j < c
          · rw [d_lt hjc]; exact goK hjc
          · rw [d_nlt hjc, cond_false]
            exact cond_sel (fun e => endB hjc e) (fun e => endK hjc e)
        | cons x xs =>
          refine Eq.mpr (r_impl_reader_shape_10_1 v [] m i a1 a2 a3 c j (x :: xs) Kn3 Kn K) ?_
          rw [hw1, hw2, hv]
          by_cases hjc : j < c
          · rw [d_lt hjc, cond_true, cond_true]
            exact cond_intro (decide_eq_true (by omega)) (goK hjc)
          · rw [d_nlt hjc, cond_false]
            exact cond_sel (fun e => endB hjc e) (fun e => endK hjc e)
      | cons n0 ns =>
        cases xs with
        | nil =>
          refine Eq.mpr (r_impl_reader_shape_10_2 v (n0 :: ns) m i a1 a2 a3 c j [] Kn3 Kn K) ?_
          rw [hw1, hw2, hv]
          by_cases hjc : j < c
          · rw [d_lt hjc]; exact goK hjc
          · rw [d_nlt hjc, cond_false]
            exact cond_sel (fun e => endB hjc e) (fun e => cond_intro (decide_eq_true (by omega)) (endK hjc e))
        | cons x xs =>
          refine Eq.mpr (r_impl_reader_shape_10_3 v (n0 :: ns) m i a1 a2 a3 c j (x :: xs) Kn3 Kn K) ?_
          rw [hw1, hw2, hv]
          by_cases hjc : j < c
          · rw [d_lt hjc, cond_true, cond_true]
            exact cond_intro (decide_eq_true (by omega)) (goK hjc)
          · rw [d_nlt hjc, cond_false]
            exact cond_sel (fun e => endB hjc e) (fun e => cond_intro (decide_eq_true (by omega)) (endK hjc e))
    have fin : ∀ b : Bool, b = (textN (textN (textN u 1) 1) 1).2.2 → True := fun _ _ => trivial
    cases ns with
    | nil =>
      refine Eq.mpr (r_impl_reader_shape_3_0 u [] m i Kn3 K) ?_
      rw [d_lt hlt, hc]
      refine cond_intro rfl (cond_intro (by rw [hp]; rfl) (cond_intro (by rw [q1]; rfl) (cond_intro (by rw [q2]; rfl) ?_)))
      unfold iBad at inner
      cases e : (textN (textN (textN u 1) 1) 1).2.2 with
      | true => rw [e] at inner; exact inner
      | false => rw [e] at inner; exact inner
    | cons n0 ns =>
      refine Eq.mpr (r_impl_reader_shape_3_1 u (n0 :: ns) m i Kn3 K) ?_
      rw [d_lt hlt, hc]
      refine cond_intro rfl (cond_intro (by rw [hp]; rfl) (cond_intro (by rw [q1]; rfl) (cond_intro (by rw [q2]; rfl) ?_)))
      unfold iBad at inner
      cases e : (textN (textN (textN u 1) 1) 1).2.2 with
      | true => rw [e] at inner; exact inner
      | false => rw [e] at inner; exact inner
  · have : i = m := by omega
    subst this
    rw [Nat.sub_self] at h
    simp only [iGo, List.append_nil] at h
    cases ns with
    | nil =>
      refine Eq.mpr (r_impl_reader_shape_3_0 u [] i i Kn3 K) ?_
      rw [d_nlt hlt, cond_false]
      exact h
    | cons n0 ns =>
      refine Eq.mpr (r_impl_reader_shape_3_1 u (n0 :: ns) i i Kn3 K) ?_
      rw [d_nlt hlt, cond_false]
      exact h

end Go.Proofs.Ytbbkhjeohfdcaaa
