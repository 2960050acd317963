/- Texts of programs. -/
import Derived.Test.YtobdbgdgingjjaaDoorStp2
set_option linter.unusedVariables false
set_option linter.unusedSimpArgs false
set_option maxRecDepth 100000
namespace Go.Proofs.YtobdbgdgingjjaaDoor
open Go.Ev

/-! plain: the text -/
theorem flat_len {α : Type} {f : α → List UInt8} {B : Nat} {xs : List α} (h : ∀ x ∈ xs, (f x).length ≤ B) : (xs.flatMap f).length ≤ B * xs.length := by
  induction xs with
  | nil => simp
  | cons x xs ih =>
    have := ih fun y hy => h y (by simp [hy])
    have := h x (by simp)
    rw [List.flatMap_cons, List.length_append, List.length_cons, Nat.mul_succ]
    omega
theorem flat_take {α : Type} (f : α → List UInt8) {xs : List α} {i : Nat} (hi : i < xs.length) : (xs.take (i + 1)).flatMap f = (xs.take i).flatMap f ++ f (xs[i]'hi) := by
  rw [take_one hi, List.flatMap_append, List.flatMap_singleton]
abbrev six (x : StepD) : List Int := [x.1, x.2.1, x.2.2.1, x.2.2.2.1, x.2.2.2.2.1, x.2.2.2.2.2.2.1]
--B stepT (Int × Int × Int × Int × Int × Int × Int × List Nat) → List UInt8
def stepT (x : StepD) : Str := (([59] ++ decT (six x)) ++ [58]) ++ numT x.2.2.2.2.2.2.2
--B progT Int → Int → List (Int × Int × Int × Int × Int × Int × Int × List Nat) → List UInt8
def progT (p q : Int) (ss : List StepD) : Str := ((itoaL p ++ [44]) ++ itoaL q) ++ ss.flatMap stepT
--B okX (Int × Int × Int × Int × Int × Int × Int × List Nat) → Bool
def okX (x : StepD) : Bool := (six x).all rngB && decide (x.2.2.2.2.2.2.2.length ≤ 4)
theorem step_okX {p q : Int} {x : StepD} (hp : p ≤ 18) (hq : q ≤ 18) (h : stepB p q x = true) : okX x = true := by
  obtain ⟨sk, to, a, b, k, na, nb, xs⟩ := x
  unfold stepB stepN at h
  simp only [Bool.and_eq_true] at h
  obtain ⟨⟨hn, hna, hnb⟩, hs⟩ := h
  have hk := numsB_isK hn
  have hk' := inR_iff.1 hk
  have hx : (xs.length : Int) = kindN k := by
    unfold numsB at hn
    simp only [Bool.and_eq_true] at hn
    simpa using hn.2.1
  have hkn : kindN k ≤ 4 := by
    rcases kinds hk with e | e | e | e | e | e | e | e | e | e | e | e | e | e | e | e | e <;> subst e <;> decide
  have hb : 0 ≤ nb ∧ nb ≤ 2 := by
    simp only [Bool.or_eq_true, Bool.and_eq_true, beq_iff_eq] at hnb
    rcases hnb with e | ⟨_, e⟩
    · omega
    · exact inR_iff.1 e
  have hv : (0 ≤ sk ∧ sk ≤ 2) ∧ (0 ≤ to ∧ to ≤ 18) ∧ (0 ≤ a ∧ a ≤ 18) ∧ (0 ≤ b ∧ b ≤ 18) := by
    by_cases h0 : sk = 0
    · subst h0
      simp only [beq_self_eq_true, cond_true, Bool.and_eq_true, inR_iff, beq_iff_eq] at hs
      omega
    · rw [beq_eq_false_iff_ne.2 h0] at hs
      by_cases h1 : sk = 1
      · subst h1
        simp only [beq_self_eq_true, cond_true, cond_false, Bool.and_eq_true, inR_iff, beq_iff_eq] at hs
        omega
      · rw [beq_eq_false_iff_ne.2 h1] at hs
        by_cases h2 : sk = 2
        · subst h2
          simp only [beq_self_eq_true, cond_true, cond_false, Bool.and_eq_true, inR_iff] at hs
          obtain ⟨_, _, h3, h4, h5⟩ := hs
          have : 0 ≤ b ∧ b ≤ 18 := by
            cases e : inR k 5 8 with
            | true => rw [e] at h5; have := inR_iff.1 (by simpa using h5); omega
            | false => rw [e] at h5; have : b = 0 := by simpa using h5
                       omega
          omega
        · rw [beq_eq_false_iff_ne.2 h2] at hs
          cases hs
  unfold okX rngB
  simp only [List.all_cons, List.all_nil, Bool.and_true, Bool.and_eq_true, decide_eq_true_eq]
  omega
theorem stepT_le {x : StepD} (h : okX x = true) : (decide ((six x).length ≤ 63) && (six x).all rngB) = true ∧ x.2.2.2.2.2.2.2.length ≤ 4 ∧ (decT (six x)).length ≤ 136 ∧ (numT x.2.2.2.2.2.2.2).length ≤ 40 ∧ (stepT x).length ≤ 178 := by
  unfold okX at h
  simp only [Bool.and_eq_true, decide_eq_true_eq] at h
  have h1 := decT_le h.1
  have h2 := numT_le x.2.2.2.2.2.2.2
  simp only [List.length_cons, List.length_nil] at h1
  refine ⟨by rw [h.1]; rfl, h.2, by omega, by omega, ?_⟩
  simp only [stepT, List.length_append, List.length_cons, List.length_nil]
  omega
theorem prog_ok {p q : Int} {ss : List StepD} (h : validP p q ss = true) : (1 ≤ p ∧ p ≤ 18) ∧ (1 ≤ q ∧ q ≤ 18) ∧ ss.length ≤ 40 ∧ ss.all okX = true := by
  unfold validP at h
  simp only [Bool.and_eq_true, inR_iff, Bool.not_eq_true'] at h
  refine ⟨h.1, h.2.1, by omega, List.all_eq_true.2 fun x hx => ?_⟩
  have := List.any_eq_false.1 h.2.2.2.1 x hx
  exact step_okX h.1.2 h.2.1.2 (by simpa using this)

/-! spec.l05Text -/
noncomputable def a_spec_l05Text : Nat → Option Ann := fun n => bif Nat.beq n 3 then some ⟨[0,3,22,23],0,false⟩ else none
noncomputable def c_spec_l05Text : Ctx := mkC Tryd.prog tyT [(41, s_spec_l01Dec), (49, s_spec_l01Text), (80, s_spec_l01NText)] [] [] 73 a_spec_l05Text 0
noncomputable def fr_spec_l05Text_3 (p q : Int) (ss : List StepD) (out : List UInt8) (n i : Int) : Fr := [(0, .ref [.int .i64 p, .int .i64 q, .vec tSt ss] 0), (3, .str out), (22, .int .i64 n), (23, .int .i64 i)]
theorem r_spec_l05Text_3 (p q : Int) (ss : List StepD) (out : List UInt8) (n i : Int) (Kn : Fr → Heap → Prop) (K : V → Heap → Prop) : round c_spec_l05Text ⟨[0,3,22,23],0,false⟩ (lb c_spec_l05Text 3 Tryd.f67) (fr_spec_l05Text_3 p q ss out n i) [] Kn (lk c_spec_l05Text 3 Tryd.f67 [] K) =
  cond (decide (i < n))
    (cond (decide (0 ≤ i))
      ((match ss[Int.toNat i]? with
        | some y0 => cond (decide (6 ≤ 63) && List.all [Prod.fst y0, Prod.fst (Prod.snd y0), Prod.fst (Prod.snd (Prod.snd y0)), Prod.fst (Prod.snd (Prod.snd (Prod.snd y0))), Prod.fst (Prod.snd (Prod.snd (Prod.snd (Prod.snd y0)))), Prod.fst (Prod.snd (Prod.snd (Prod.snd (Prod.snd (Prod.snd (Prod.snd y0))))))] rngB)
          (cond (Nat.blt (1 + List.length (decT [Prod.fst y0, Prod.fst (Prod.snd y0), Prod.fst (Prod.snd (Prod.snd y0)), Prod.fst (Prod.snd (Prod.snd (Prod.snd y0))), Prod.fst (Prod.snd (Prod.snd (Prod.snd (Prod.snd y0)))), Prod.fst (Prod.snd (Prod.snd (Prod.snd (Prod.snd (Prod.snd (Prod.snd y0))))))])) 9223372036854775808)
            (cond (Nat.blt (List.length (Array.toList (ByteArray.data { data := #[59] }) ++ decT [Prod.fst y0, Prod.fst (Prod.snd y0), Prod.fst (Prod.snd (Prod.snd y0)), Prod.fst (Prod.snd (Prod.snd (Prod.snd y0))), Prod.fst (Prod.snd (Prod.snd (Prod.snd (Prod.snd y0)))), Prod.fst (Prod.snd (Prod.snd (Prod.snd (Prod.snd (Prod.snd (Prod.snd y0))))))]) + 1) 9223372036854775808)
              (cond (decide (List.length (Prod.snd (Prod.snd (Prod.snd (Prod.snd (Prod.snd (Prod.snd (Prod.snd y0))))))) ≤ 1048576))
                (cond (Nat.blt (List.length (Array.toList (ByteArray.data { data := #[59] }) ++ decT [Prod.fst y0, Prod.fst (Prod.snd y0), Prod.fst (Prod.snd (Prod.snd y0)), Prod.fst (Prod.snd (Prod.snd (Prod.snd y0))), Prod.fst (Prod.snd (Prod.snd (Prod.snd (Prod.snd y0)))), Prod.fst (Prod.snd (Prod.snd (Prod.snd (Prod.snd (Prod.snd (Prod.snd y0))))))] ++ Array.toList (ByteArray.data { data := #[58] })) + List.length (numT (Prod.snd (Prod.snd (Prod.snd (Prod.snd (Prod.snd (Prod.snd (Prod.snd y0))))))))) 9223372036854775808)
                  (cond (Nat.blt (List.length out + List.length (Array.toList (ByteArray.data { data := #[59] }) ++ decT [Prod.fst y0, Prod.fst (Prod.snd y0), Prod.fst (Prod.snd (Prod.snd y0)), Prod.fst (Prod.snd (Prod.snd (Prod.snd y0))), Prod.fst (Prod.snd (Prod.snd (Prod.snd (Prod.snd y0)))), Prod.fst (Prod.snd (Prod.snd (Prod.snd (Prod.snd (Prod.snd (Prod.snd y0))))))] ++ Array.toList (ByteArray.data { data := #[58] }) ++ numT (Prod.snd (Prod.snd (Prod.snd (Prod.snd (Prod.snd (Prod.snd (Prod.snd y0))))))))) 9223372036854775808)
                    (Kn [(0, (.ref [(.int .i64 (p)), (.int .i64 (q)), (.vec (.pair (.int .i64) (.pair (.int .i64) (.pair (.int .i64) (.pair (.int .i64) (.pair (.int .i64) (.pair (.int .i64) (.pair (.int .i64) (.slice (.float .f32))))))))) (ss))] 0)), (3, (.str (out ++ (Array.toList (ByteArray.data { data := #[59] }) ++ decT [Prod.fst y0, Prod.fst (Prod.snd y0), Prod.fst (Prod.snd (Prod.snd y0)), Prod.fst (Prod.snd (Prod.snd (Prod.snd y0))), Prod.fst (Prod.snd (Prod.snd (Prod.snd (Prod.snd y0)))), Prod.fst (Prod.snd (Prod.snd (Prod.snd (Prod.snd (Prod.snd (Prod.snd y0))))))] ++ Array.toList (ByteArray.data { data := #[58] }) ++ numT (Prod.snd (Prod.snd (Prod.snd (Prod.snd (Prod.snd (Prod.snd (Prod.snd y0))))))))))), (22, (.int .i64 (n))), (23, (.int .i64 (IntKind.wrap IntKind.i64 (i + 1))))] [])
                    (False))
                  (False))
                (False))
              (False))
            (False))
          (False)
        | none => False))
      (False))
    (K (.str (out)) []) := by kernel_rfl
theorem w_spec_l05Text (p q : Int) (ss : List StepD) (K : V → Heap → Prop) : wpFn c_spec_l05Text Tryd.f67 (encAs [.ref tP] ((p, q, ss), ())) [] K =
  cond (decide (0 ≤ p) && decide (p < 65003))
    (cond (Nat.blt (List.length (itoaL p) + 1) 9223372036854775808)
      (cond (decide (0 ≤ q) && decide (q < 65003))
        (cond (Nat.blt (List.length (itoaL p ++ Array.toList (ByteArray.data { data := #[44] })) + List.length (itoaL q)) 9223372036854775808)
          (LoopE c_spec_l05Text ⟨[0, 3, 22, 23], 0, false⟩ (lb c_spec_l05Text 3 Tryd.f67) [(0, (.ref [(.int .i64 (p)), (.int .i64 (q)), (.vec (.pair (.int .i64) (.pair (.int .i64) (.pair (.int .i64) (.pair (.int .i64) (.pair (.int .i64) (.pair (.int .i64) (.pair (.int .i64) (.slice (.float .f32))))))))) (ss))] 0)), (3, (.str (itoaL p ++ Array.toList (ByteArray.data { data := #[44] }) ++ itoaL q))), (22, (.int .i64 ((↑(List.length ss) : Int)))), (23, (.int .i64 0))] [] (lk c_spec_l05Text 3 Tryd.f67 [] K))
          (False))
        (False))
      (False))
    (False) := by kernel_rfl
noncomputable def s_spec_l05Text : Sm := semG [.ref tP] (fun x => match x with | ((p, q, ss), _) => validP p q ss) fun x => match x with | ((p, q, ss), _) => .str (progT p q ss)
theorem ok_spec_l05Text : FnOk Tryd.prog 67 s_spec_l05Text := fnOk_typedG (fnOk_runC (C := c_spec_l05Text) rfl mixed (.cons ok_spec_l01Dec (.cons ok_spec_l01Text (.cons ok_spec_l01NText .nil))) .nil .nil Tryd.func67 (by kernel_rfl)) fun (x : (((Int) × (Int) × (List StepD)) × Unit)) wf hg K h => by
  obtain ⟨⟨p, q, ss⟩, ⟨⟩⟩ := x
  replace hg : (validP p q ss) = true := hg
  replace h : K (.str (progT p q ss)) [] := h
  rw [w_spec_l05Text p q ss K]
  obtain ⟨hp, hq, h40, hall⟩ := prog_ok hg
  have lp := itoa_len (n := p) (by omega)
  have lq := itoa_len (n := q) (by omega)
  have hlenA : ((itoaL p ++ [44]) ++ itoaL q).length ≤ 43 := by simp only [List.length_append, List.length_cons, List.length_nil]; omega
  have b1 : Nat.blt ((itoaL p).length + 1) 9223372036854775808 = true := blt_big (by omega)
  have b2 : Nat.blt ((itoaL p ++ [44]).length + (itoaL q).length) 9223372036854775808 = true := blt_big (by simp only [List.length_append, List.length_cons, List.length_nil]; omega)
  rw [d_t (show 0 ≤ p by omega), d_t (show p < 65003 by omega), d_t (show 0 ≤ q by omega), d_t (show q < 65003 by omega)]
  simp only [Bool.and_self, cond_true]
  change cond (Nat.blt ((itoaL p).length + 1) 9223372036854775808) (cond (Nat.blt ((itoaL p ++ [44]).length + (itoaL q).length) 9223372036854775808) (LoopE _ _ _ (fr_spec_l05Text_3 p q ss ((itoaL p ++ [44]) ++ itoaL q) ss.length 0) [] _) False) False
  rw [b1, b2]
  simp only [cond_true]
  clear b1 b2
  generalize hA : (itoaL p ++ [44]) ++ itoaL q = A at *
  have hS : progT p q ss = A ++ ss.flatMap stepT := by unfold progT; rw [hA]
  refine loop_run (σ := Nat × List UInt8) (fun x => fr_spec_l05Text_3 p q ss x.2 ss.length x.1) (fun _ => []) (fun x => x.1 ≤ ss.length ∧ x.2 = A ++ (ss.take x.1).flatMap stepT) (fun x => ss.length - x.1) ?_ (0, A) ⟨Nat.zero_le _, by simp⟩
  rintro ⟨i, l⟩ ⟨hi, hl⟩ Kn hk
  simp only at hi hl hk ⊢
  rw [r_spec_l05Text_3 p q ss l ss.length i Kn K]
  have hlen : l.length ≤ 7200 := by
    have := flat_len (f := stepT) (B := 178) (xs := ss.take i) fun x hx => (stepT_le (List.all_eq_true.1 hall x (List.mem_of_mem_take hx))).2.2.2.2
    rw [List.length_take] at this
    rw [hl, List.length_append]; omega
  by_cases hlt : i < ss.length
  · simp only [d_lt hlt, d_0, cond_true, Int.toNat_natCast, get_lt hlt]
    have hy := stepT_le (List.all_eq_true.1 hall _ (List.getElem_mem hlt))
    have next : ∀ l', l' = l ++ stepT (ss[i]'hlt) → Kn (fr_spec_l05Text_3 p q ss l' ss.length ((i : Int) + 1)) [] := fun l' e =>
      hk (i + 1, l') ⟨hlt, by simp only; rw [flat_take stepT hlt, e, hl, List.append_assoc]⟩ (by simp only; omega)
    generalize ss[i]'hlt = y at *
    obtain ⟨h1, h2, h3, h4, h5⟩ := hy
    have b3 : Nat.blt (1 + (decT (six y)).length) 9223372036854775808 = true := blt_big (by omega)
    have b4 : Nat.blt (([59] ++ decT (six y)).length + 1) 9223372036854775808 = true := blt_big (by simp only [List.length_append, List.length_cons, List.length_nil]; omega)
    have b5 : Nat.blt ((([59] ++ decT (six y)) ++ [58]).length + (numT y.2.2.2.2.2.2.2).length) 9223372036854775808 = true := blt_big (by simp only [List.length_append, List.length_cons, List.length_nil]; omega)
    have b6 : Nat.blt (l.length + (stepT y).length) 9223372036854775808 = true := blt_big (by omega)
    rw [i64_of (n := (i : Int) + 1) (by omega) (by omega)]
    change cond (decide ((six y).length ≤ 63) && (six y).all rngB) (cond (Nat.blt (1 + (decT (six y)).length) 9223372036854775808) (cond (Nat.blt (([59] ++ decT (six y)).length + 1) 9223372036854775808) (cond (decide (y.2.2.2.2.2.2.2.length ≤ 1048576)) (cond (Nat.blt ((([59] ++ decT (six y)) ++ [58]).length + (numT y.2.2.2.2.2.2.2).length) 9223372036854775808) (cond (Nat.blt (l.length + (stepT y).length) 9223372036854775808) (Kn _ _) False) False) False) False) False) False
    rw [h1, b3, b4, d_t (show y.2.2.2.2.2.2.2.length ≤ 1048576 by omega), b5, b6]
    exact next _ rfl
  · have : i = ss.length := by omega
    subst this
    simp only [d_nlt hlt, cond_false]
    rw [List.take_length, ← hS] at hl
    subst hl
    exact h

/-! spec.ProgramText -/
noncomputable def c_spec_ProgramText : Ctx := mkC Tryd.prog tyT [(66, s_spec_l05Is), (67, s_spec_l05Text)] [] [] 7 (fun _ => none) 0
theorem w_spec_ProgramText (p q : Int) (ss : List StepD) (K : V → Heap → Prop) : wpFn c_spec_ProgramText Tryd.f28 (encAs [.agg tP] ((p, q, ss), ())) [] K =
  cond (!validP p q ss)
    (K (.tuple [(.str (Array.toList (ByteArray.data { data := #[] }))), (.bool false)]) [])
    (cond (validP p q ss)
      (K (.tuple [(.str (progT p q ss)), (.bool true)]) [])
      (False)) := by kernel_rfl
noncomputable def s_spec_ProgramText : Sm := semT [.agg tP] fun x => match x with | ((p, q, ss), _) => .tuple [.str (bif validP p q ss then progT p q ss else []), .bool (validP p q ss)]
theorem ok_spec_ProgramText : FnOk Tryd.prog 28 s_spec_ProgramText := fnOk_typed (fnOk_runC (C := c_spec_ProgramText) rfl mixed (.cons ok_spec_l05Is (.cons ok_spec_l05Text .nil)) .nil .nil Tryd.func28 (by kernel_rfl)) fun (x : (((Int) × (Int) × (List StepD)) × Unit)) wf K h => by
  obtain ⟨⟨p, q, ss⟩, ⟨⟩⟩ := x
  replace h : K (.tuple [.str (bif validP p q ss then progT p q ss else []), .bool (validP p q ss)]) [] := h
  rw [w_spec_ProgramText p q ss K]
  cases hv : validP p q ss with
  | false => rw [hv] at h; exact h
  | true =>
    rw [hv] at h
    exact h

/-! impl.ProgramText -/
noncomputable def a_impl_ProgramText : Nat → Option Ann := fun n => bif Nat.beq n 6 then some ⟨[4,23,24,25],2,false⟩ else bif Nat.beq n 10 then some ⟨[4,6,23,24,25,44,45,46],4,false⟩ else none
noncomputable def c_impl_ProgramText : Ctx := mkC Tryd.prog tyT [(69, s_impl_ValidProgram), (37, s_impl_Decimal), (62, s_impl_numbersText)] [] [(36, s_strings_Builder_WriteString), (38, s_strings_Builder_String)] 66 a_impl_ProgramText 0
noncomputable def fr_impl_ProgramText_6 (p q : Int) (ss : List StepD) (l : List UInt8) (n i : Int) : Fr := [(4, .bptr 1), (23, .vec tSt ss), (24, .int .i64 n), (25, .int .i64 i)]
noncomputable def hp_impl_ProgramText_6 (p q : Int) (ss : List StepD) (l : List UInt8) (n i : Int) : Heap := [.box [.int .i64 p, .int .i64 q, .vec tSt ss], .bld 70 5 l]
theorem r_impl_ProgramText_6 (p q : Int) (ss : List StepD) (l : List UInt8) (n i : Int) (Kn : Fr → Heap → Prop) (K : V → Heap → Prop) : round c_impl_ProgramText ⟨[4,23,24,25],2,false⟩ (lb c_impl_ProgramText 6 Tryd.f30) (fr_impl_ProgramText_6 p q ss l n i) (hp_impl_ProgramText_6 p q ss l n i) Kn (lk c_impl_ProgramText 6 Tryd.f30 [] K) =
  cond (decide (i < n))
    (cond (decide (0 ≤ i))
      ((match ss[Int.toNat i]? with
        | some y0 => cond (decide (List.length l + 1 ≤ 140737488355328))
          (LoopE c_impl_ProgramText ⟨[4, 6, 23, 24, 25, 44, 45, 46], 4, false⟩ (pathB c_impl_ProgramText [6, 10] (bodyOf Tryd.f30)) [(4, (.bptr 1)), (6, (.ptr 2 0)), (23, (.vec (.pair (.int .i64) (.pair (.int .i64) (.pair (.int .i64) (.pair (.int .i64) (.pair (.int .i64) (.pair (.int .i64) (.pair (.int .i64) (.slice (.float .f32))))))))) (ss))), (24, (.int .i64 (n))), (25, (.int .i64 (i))), (44, (.obj 3 0)), (45, (.int .i64 ((↑6 : Int)))), (46, (.int .i64 0))] [(.box [(.int .i64 (p)), (.int .i64 (q)), (.vec (.pair (.int .i64) (.pair (.int .i64) (.pair (.int .i64) (.pair (.int .i64) (.pair (.int .i64) (.pair (.int .i64) (.pair (.int .i64) (.slice (.float .f32))))))))) (ss))]), (.bld 70 5 (l ++ Array.toList (ByteArray.data { data := #[59] }))), (.box [(.int .i64 (Prod.fst y0)), (.int .i64 (Prod.fst (Prod.snd y0))), (.int .i64 (Prod.fst (Prod.snd (Prod.snd y0)))), (.int .i64 (Prod.fst (Prod.snd (Prod.snd (Prod.snd y0))))), (.int .i64 (Prod.fst (Prod.snd (Prod.snd (Prod.snd (Prod.snd y0)))))), (.int .i64 (Prod.fst (Prod.snd (Prod.snd (Prod.snd (Prod.snd (Prod.snd y0))))))), (.int .i64 (Prod.fst (Prod.snd (Prod.snd (Prod.snd (Prod.snd (Prod.snd (Prod.snd y0)))))))), (.vec (.float .f32) (Prod.snd (Prod.snd (Prod.snd (Prod.snd (Prod.snd (Prod.snd (Prod.snd y0))))))))]), (.sl 0 (.int .i64) ([Prod.fst y0, Prod.fst (Prod.snd y0), Prod.fst (Prod.snd (Prod.snd y0)), Prod.fst (Prod.snd (Prod.snd (Prod.snd y0))), Prod.fst (Prod.snd (Prod.snd (Prod.snd (Prod.snd y0)))), Prod.fst (Prod.snd (Prod.snd (Prod.snd (Prod.snd (Prod.snd (Prod.snd y0))))))]))] (pathK c_impl_ProgramText [(6, ⟨[4,23,24,25],2,false⟩, Kn)] 10 (bodyOf Tryd.f30) (kFn c_impl_ProgramText Tryd.f30 [] K)))
          (False)
        | none => False))
      (False))
    (cond (decide (List.length l ≤ 140737488355328))
      (K (.tuple [(.str (l)), (.bool true)]) [])
      (False)) := by kernel_rfl
noncomputable def fr_impl_ProgramText_10 (p q : Int) (ss : List StepD) (l : List UInt8) (n i : Int) (sk to a b k na nb : Int) (xs : List Nat) (zs : List Int) (m j : Int) : Fr := [(4, .bptr 1), (6, .ptr 2 0), (23, .vec tSt ss), (24, .int .i64 n), (25, .int .i64 i), (44, .obj 3 0), (45, .int .i64 m), (46, .int .i64 j)]
noncomputable def hp_impl_ProgramText_10 (p q : Int) (ss : List StepD) (l : List UInt8) (n i : Int) (sk to a b k na nb : Int) (xs : List Nat) (zs : List Int) (m j : Int) : Heap := [.box [.int .i64 p, .int .i64 q, .vec tSt ss], .bld 70 5 l, .box [.int .i64 sk, .int .i64 to, .int .i64 a, .int .i64 b, .int .i64 k, .int .i64 na, .int .i64 nb, .vec tF xs], .sl 0 tI zs]
theorem r_impl_ProgramText_10 (p q : Int) (ss : List StepD) (l : List UInt8) (n i : Int) (sk to a b k na nb : Int) (xs : List Nat) (zs : List Int) (m j : Int) (Kn6 : Fr → Heap → Prop) (Kn : Fr → Heap → Prop) (K : V → Heap → Prop) : round c_impl_ProgramText ⟨[4,6,23,24,25,44,45,46],4,false⟩ (pathB c_impl_ProgramText [6, 10] (bodyOf Tryd.f30)) (fr_impl_ProgramText_10 p q ss l n i sk to a b k na nb xs zs m j) (hp_impl_ProgramText_10 p q ss l n i sk to a b k na nb xs zs m j) Kn (pathK c_impl_ProgramText [(6, ⟨[4,23,24,25],2,false⟩, Kn6)] 10 (bodyOf Tryd.f30) (kFn c_impl_ProgramText Tryd.f30 [] K)) =
  cond (decide (j < m))
    (cond (decide (0 ≤ j) && Nat.blt (Int.toNat j) (List.length zs))
      ((match zs[Int.toNat j]? with
        | some x0 => cond (decide (j > 0))
          (cond (decide (List.length l + 1 ≤ 140737488355328))
            (cond (decide (List.length (l ++ Array.toList (ByteArray.data { data := #[44] })) + List.length (itoaL x0) ≤ 140737488355328))
              (Kn [(4, (.bptr 1)), (6, (.ptr 2 0)), (23, (.vec (.pair (.int .i64) (.pair (.int .i64) (.pair (.int .i64) (.pair (.int .i64) (.pair (.int .i64) (.pair (.int .i64) (.pair (.int .i64) (.slice (.float .f32))))))))) (ss))), (24, (.int .i64 (n))), (25, (.int .i64 (i))), (44, (.obj 3 0)), (45, (.int .i64 (m))), (46, (.int .i64 (IntKind.wrap IntKind.i64 (j + 1))))] [(.box [(.int .i64 (p)), (.int .i64 (q)), (.vec (.pair (.int .i64) (.pair (.int .i64) (.pair (.int .i64) (.pair (.int .i64) (.pair (.int .i64) (.pair (.int .i64) (.pair (.int .i64) (.slice (.float .f32))))))))) (ss))]), (.bld 70 5 (l ++ Array.toList (ByteArray.data { data := #[44] }) ++ itoaL x0)), (.box [(.int .i64 (sk)), (.int .i64 (to)), (.int .i64 (a)), (.int .i64 (b)), (.int .i64 (k)), (.int .i64 (na)), (.int .i64 (nb)), (.vec (.float .f32) (xs))]), (.sl 0 (.int .i64) (zs))])
              (False))
            (False))
          (cond (decide (List.length l + List.length (itoaL x0) ≤ 140737488355328))
            (Kn [(4, (.bptr 1)), (6, (.ptr 2 0)), (23, (.vec (.pair (.int .i64) (.pair (.int .i64) (.pair (.int .i64) (.pair (.int .i64) (.pair (.int .i64) (.pair (.int .i64) (.pair (.int .i64) (.slice (.float .f32))))))))) (ss))), (24, (.int .i64 (n))), (25, (.int .i64 (i))), (44, (.obj 3 0)), (45, (.int .i64 (m))), (46, (.int .i64 (IntKind.wrap IntKind.i64 (j + 1))))] [(.box [(.int .i64 (p)), (.int .i64 (q)), (.vec (.pair (.int .i64) (.pair (.int .i64) (.pair (.int .i64) (.pair (.int .i64) (.pair (.int .i64) (.pair (.int .i64) (.pair (.int .i64) (.slice (.float .f32))))))))) (ss))]), (.bld 70 5 (l ++ itoaL x0)), (.box [(.int .i64 (sk)), (.int .i64 (to)), (.int .i64 (a)), (.int .i64 (b)), (.int .i64 (k)), (.int .i64 (na)), (.int .i64 (nb)), (.vec (.float .f32) (xs))]), (.sl 0 (.int .i64) (zs))])
            (False))
        | none => False))
      (False))
    (cond (decide (List.length xs ≤ 256))
      (cond (Nat.blt (1 + List.length (numT xs)) 9223372036854775808)
        (cond (decide (List.length l + List.length (Array.toList (ByteArray.data { data := #[58] }) ++ numT xs) ≤ 140737488355328))
          (Kn6 [(4, (.bptr 1)), (23, (.vec (.pair (.int .i64) (.pair (.int .i64) (.pair (.int .i64) (.pair (.int .i64) (.pair (.int .i64) (.pair (.int .i64) (.pair (.int .i64) (.slice (.float .f32))))))))) (ss))), (24, (.int .i64 (n))), (25, (.int .i64 (IntKind.wrap IntKind.i64 (i + 1))))] [(.box [(.int .i64 (p)), (.int .i64 (q)), (.vec (.pair (.int .i64) (.pair (.int .i64) (.pair (.int .i64) (.pair (.int .i64) (.pair (.int .i64) (.pair (.int .i64) (.pair (.int .i64) (.slice (.float .f32))))))))) (ss))]), (.bld 70 5 (l ++ (Array.toList (ByteArray.data { data := #[58] }) ++ numT xs)))])
          (False))
        (False))
      (False)) := by kernel_rfl
theorem w_impl_ProgramText (p q : Int) (ss : List StepD) (K : V → Heap → Prop) : wpFn c_impl_ProgramText Tryd.f30 (encAs [.agg tP] ((p, q, ss), ())) [] K =
  cond (!validP p q ss)
    (K (.tuple [(.str (Array.toList (ByteArray.data { data := #[] }))), (.bool false)]) [])
    (cond (Nat.blt (List.length (itoaL p) + 1) 9223372036854775808)
      (cond (Nat.blt (List.length (itoaL p ++ Array.toList (ByteArray.data { data := #[44] })) + List.length (itoaL q)) 9223372036854775808)
        (cond (decide (0 + List.length (itoaL p ++ Array.toList (ByteArray.data { data := #[44] }) ++ itoaL q) ≤ 140737488355328))
          (LoopE c_impl_ProgramText ⟨[4, 23, 24, 25], 2, false⟩ (lb c_impl_ProgramText 6 Tryd.f30) [(4, (.bptr 1)), (23, (.vec (.pair (.int .i64) (.pair (.int .i64) (.pair (.int .i64) (.pair (.int .i64) (.pair (.int .i64) (.pair (.int .i64) (.pair (.int .i64) (.slice (.float .f32))))))))) (ss))), (24, (.int .i64 ((↑(List.length ss) : Int)))), (25, (.int .i64 0))] [(.box [(.int .i64 (p)), (.int .i64 (q)), (.vec (.pair (.int .i64) (.pair (.int .i64) (.pair (.int .i64) (.pair (.int .i64) (.pair (.int .i64) (.pair (.int .i64) (.pair (.int .i64) (.slice (.float .f32))))))))) (ss))]), (.bld 70 5 ([] ++ (itoaL p ++ Array.toList (ByteArray.data { data := #[44] }) ++ itoaL q)))] (lk c_impl_ProgramText 6 Tryd.f30 [] K))
          (False))
        (False))
      (False)) := by kernel_rfl
noncomputable def s_impl_ProgramText : Sm := semT [.agg tP] fun x => match x with | ((p, q, ss), _) => .tuple [.str (bif validP p q ss then progT p q ss else []), .bool (validP p q ss)]
theorem ok_impl_ProgramText : FnOk Tryd.prog 30 s_impl_ProgramText := fnOk_typed (fnOk_runC (C := c_impl_ProgramText) rfl mixed (.cons ok_impl_ValidProgram (.cons ok_impl_Decimal (.cons ok_impl_numbersText .nil))) .nil (.cons ok_strings_Builder_WriteString (.cons ok_strings_Builder_String .nil)) Tryd.func30 (by kernel_rfl)) fun (x : (((Int) × (Int) × (List StepD)) × Unit)) wf K h => by
  obtain ⟨⟨p, q, ss⟩, ⟨⟩⟩ := x
  replace h : K (.tuple [.str (bif validP p q ss then progT p q ss else []), .bool (validP p q ss)]) [] := h
  rw [w_impl_ProgramText p q ss K]
  cases hv : validP p q ss with
  | false => rw [hv] at h; exact h
  | true =>
  rw [hv] at h
  simp only [Bool.not_true, cond_false, cond_true] at h ⊢
  obtain ⟨hp, hq, h40, hall⟩ := prog_ok hv
  have lp := itoa_len (n := p) (by omega)
  have lq := itoa_len (n := q) (by omega)
  have hlenA : ((itoaL p ++ [44]) ++ itoaL q).length ≤ 43 := by simp only [List.length_append, List.length_cons, List.length_nil]; omega
  have b1 : Nat.blt ((itoaL p).length + 1) 9223372036854775808 = true := blt_big (by omega)
  have b2 : Nat.blt ((itoaL p ++ [44]).length + (itoaL q).length) 9223372036854775808 = true := blt_big (by simp only [List.length_append, List.length_cons, List.length_nil]; omega)
  change cond (Nat.blt ((itoaL p).length + 1) 9223372036854775808) (cond (Nat.blt ((itoaL p ++ [44]).length + (itoaL q).length) 9223372036854775808) (cond (decide (0 + ((itoaL p ++ [44]) ++ itoaL q).length ≤ 140737488355328)) (LoopE _ _ _ (fr_impl_ProgramText_6 p q ss [] ss.length 0) (hp_impl_ProgramText_6 p q ss ([] ++ ((itoaL p ++ [44]) ++ itoaL q)) ss.length 0) _) False) False) False
  have b0 : decide (0 + ((itoaL p ++ [44]) ++ itoaL q).length ≤ 140737488355328) = true := decide_eq_true (by omega)
  rw [b1, b2, b0]
  simp only [cond_true]
  clear b1 b2
  try clear b0
  generalize hA : (itoaL p ++ [44]) ++ itoaL q = A at *
  have hS : progT p q ss = A ++ ss.flatMap stepT := by unfold progT; rw [hA]
  refine loop_run (σ := Nat × List UInt8) (fun x => fr_impl_ProgramText_6 p q ss x.2 ss.length x.1) (fun x => hp_impl_ProgramText_6 p q ss x.2 ss.length x.1) (fun x => x.1 ≤ ss.length ∧ x.2 = A ++ (ss.take x.1).flatMap stepT) (fun x => ss.length - x.1) ?_ (0, [] ++ A) ⟨Nat.zero_le _, by simp⟩
  rintro ⟨i, l⟩ ⟨hi, hl⟩ Kn6 hk6
  simp only at hi hl hk6 ⊢
  rw [r_impl_ProgramText_6 p q ss l ss.length i Kn6 K]
  have hlen : l.length ≤ 7200 := by
    have := flat_len (f := stepT) (B := 178) (xs := ss.take i) fun x hx => (stepT_le (List.all_eq_true.1 hall x (List.mem_of_mem_take hx))).2.2.2.2
    rw [List.length_take] at this
    rw [hl, List.length_append]; omega
  by_cases hlt : i < ss.length
  · simp only [d_lt hlt, d_0, cond_true, Int.toNat_natCast, get_lt hlt, d_t (show l.length + 1 ≤ 140737488355328 by omega)]
    have hy := stepT_le (List.all_eq_true.1 hall _ (List.getElem_mem hlt))
    have next : ∀ l', l' = l ++ stepT (ss[i]'hlt) → Kn6 (fr_impl_ProgramText_6 p q ss l' ss.length ((i : Int) + 1)) (hp_impl_ProgramText_6 p q ss l' ss.length i) := fun l' e =>
      hk6 (i + 1, l') ⟨hlt, by simp only; rw [flat_take stepT hlt, e, hl, List.append_assoc]⟩ (by simp only; omega)
    generalize ss[i]'hlt = y at *
    obtain ⟨sk, to, a, b, k, na, nb, xs⟩ := y
    obtain ⟨h1, h2, h3, h4, h5⟩ := hy
    simp only [Bool.and_eq_true] at h1
    have hr := h1.2
    refine loop_run (σ := Nat × List UInt8) (fun x => fr_impl_ProgramText_10 p q ss x.2 ss.length i sk to a b k na nb xs [sk, to, a, b, k, nb] 6 x.1) (fun x => hp_impl_ProgramText_10 p q ss x.2 ss.length i sk to a b k na nb xs [sk, to, a, b, k, nb] 6 x.1) (fun x => x.1 ≤ 6 ∧ x.2 = (l ++ [59]) ++ joinL (([sk, to, a, b, k, nb].take x.1).map itoaL) [44]) (fun x => 6 - x.1) ?_ (0, l ++ [59]) ⟨Nat.zero_le _, by simp [joinL, Lib.join_nil]⟩
    rintro ⟨j, l'⟩ ⟨hj, hl'⟩ Kn hk
    simp only at hj hl' hk ⊢
    rw [r_impl_ProgramText_10 p q ss l' ss.length i sk to a b k na nb xs [sk, to, a, b, k, nb] 6 j Kn6 Kn K]
    have hzl : [sk, to, a, b, k, nb].length = 6 := rfl
    have hr : [sk, to, a, b, k, nb].all rngB = true := hr
    have hD : decT [sk, to, a, b, k, nb] = joinL ([sk, to, a, b, k, nb].map itoaL) [44] := rfl
    have hst : stepT (sk, to, a, b, k, na, nb, xs) = (([59] ++ decT [sk, to, a, b, k, nb]) ++ [58]) ++ numT xs := rfl
    have h4 : (numT xs).length ≤ 40 := h4
    have h2 : xs.length ≤ 4 := h2
    generalize [sk, to, a, b, k, nb] = zs at *
    have hlen' : l'.length ≤ 7500 := by
      have hb := itoas_le (ls := zs.take j) (List.all_eq_true.2 fun n hn => List.all_eq_true.1 hr n (List.mem_of_mem_take hn)) [44]
      rw [List.length_take] at hb
      simp only [List.length_cons, List.length_nil] at hb
      rw [hl', List.length_append, List.length_append, List.length_cons, List.length_nil]; omega
    by_cases hjl : j < 6
    · have hjz : j < zs.length := by omega
      rw [d_t (show (j : Int) < 6 by omega), d_0, Int.toNat_natCast, blt_t hjz, get_lt hjz]
      simp only [Bool.and_self, cond_true]
      have hz := itoa_len (rngB_iff (List.all_eq_true.1 hr _ (List.getElem_mem hjz)))
      have nextk : ∀ l'', l'' = (l ++ [59]) ++ joinL ((zs.take (j + 1)).map itoaL) [44] → Kn (fr_impl_ProgramText_10 p q ss l'' ss.length i sk to a b k na nb xs zs 6 ((j : Int) + 1)) (hp_impl_ProgramText_10 p q ss l'' ss.length i sk to a b k na nb xs zs 6 j) := fun l'' e =>
        hk (j + 1, l'') ⟨by omega, e⟩ (by simp only; omega)
      rw [i64_of (n := (j : Int) + 1) (by omega) (by omega)]
      by_cases hj0 : j = 0
      · subst hj0
        rw [d_f (show ¬ ((0 : Nat) : Int) > 0 by decide), d_t (show l'.length + (itoaL (zs[0]'hjz)).length ≤ 140737488355328 by omega)]
        refine nextk _ ?_
        rw [hl', take_one hjz]
        simp only [List.take_zero, List.nil_append, List.map_cons, List.map_nil, joinL_one]
        simp [joinL, Lib.join_nil]
      · rw [d_t (show ((j : Nat) : Int) > 0 by omega), d_t (show l'.length + 1 ≤ 140737488355328 by omega)]
        change cond true (cond true (cond (decide ((l' ++ [44]).length + (itoaL (zs[j]'hjz)).length ≤ 140737488355328)) (Kn _ _) False) False) _
        have b7 : decide ((l' ++ [44]).length + (itoaL (zs[j]'hjz)).length ≤ 140737488355328) = true := decide_eq_true (by simp only [List.length_append, List.length_cons, List.length_nil]; omega)
        rw [b7]
        refine nextk _ ?_
        rw [take_one hjz, List.map_append, List.map_cons, List.map_nil, joinL_snoc (fun e => ?_), hl']
        · simp only [List.append_assoc]
        · have := congrArg List.length e
          rw [List.length_map, List.length_take, List.length_nil] at this
          omega
    · have : j = 6 := by omega
      subst this
      rw [d_f (show ¬ ((6 : Nat) : Int) < 6 by decide), d_t (show xs.length ≤ 256 by omega), i64_of (n := (i : Int) + 1) (by omega) (by omega)]
      simp only [cond_false, cond_true]
      have b3 : Nat.blt (1 + (numT xs).length) 9223372036854775808 = true := blt_big (by omega)
      change cond (Nat.blt (1 + (numT xs).length) 9223372036854775808) (cond (decide (l'.length + ([58] ++ numT xs).length ≤ 140737488355328)) (Kn6 _ _) False) False
      have b8 : decide (l'.length + ([58] ++ numT xs).length ≤ 140737488355328) = true := decide_eq_true (by simp only [List.length_append, List.length_cons, List.length_nil]; omega)
      rw [b3, b8]
      refine next _ ?_
      rw [hst, hD, hl', List.take_of_length_le (by omega)]
      simp only [List.append_assoc]
  · have : i = ss.length := by omega
    subst this
    simp only [d_nlt hlt, cond_false]
    rw [List.take_length, ← hS] at hl
    subst hl
    rw [d_t (show (progT p q ss).length ≤ 140737488355328 by omega)]
    exact h

def wStep (x : StepD) : Nat := wNode x.2.2.2.2
def wProg (ss : List StepD) : Nat := wList wStep ss

/-! laws.szStep -/
noncomputable def c_laws_szStep : Ctx := mkC Tryd.prog tyT [(91, s_laws_szNode)] [] [] 12 (fun _ => none) 0
theorem w_laws_szStep (x : StepD) (n : Int) (K : V → Heap → Prop) : wpFn c_laws_szStep Tryd.f103 (encAs [.agg tSt, .cell tI] (x, n, ())) [] K =
  cond (decide (n ≤ 1048576) && decide (0 ≤ n))
    (cond (decide (szV n (wNode (Prod.snd (Prod.snd (Prod.snd (Prod.snd x))))) < 0))
      (K (.int .i64 (-1)) [])
      (K (.int .i64 (szV n (wNode (Prod.snd (Prod.snd (Prod.snd (Prod.snd x))))))) []))
    (False) := by kernel_rfl
noncomputable def s_laws_szStep : Sm := semG [.agg tSt, .cell tI] (fun x => match x with | (x, n, _) => decide (n ≤ 1048576) && decide (0 ≤ n)) fun x => match x with | (x, n, _) => .int .i64 (szV n (wStep x))
theorem ok_laws_szStep : FnOk Tryd.prog 103 s_laws_szStep := fnOk_typedG (fnOk_runC (C := c_laws_szStep) rfl mixed (.cons ok_laws_szNode .nil) .nil .nil Tryd.func103 (by kernel_rfl)) fun (x : ((StepD) × (Int) × Unit)) wf hg K h => by
  obtain ⟨x, n, ⟨⟩⟩ := x
  replace hg : (decide (n ≤ 1048576) && decide (0 ≤ n)) = true := hg
  replace h : K (.int .i64 (szV n (wStep x))) [] := h
  rw [w_laws_szStep x n K]
  rw [hg]
  simp only [cond_true]
  by_cases h1 : n - (wStep x : Int) < 0
  · rw [szV_no h1] at h
    simp only [show wNode x.2.2.2.2 = wStep x from rfl, szV_no h1]
    exact h
  · rw [szV_ok (by omega)] at h
    simp only [show wNode x.2.2.2.2 = wStep x from rfl, szV_ok (n := n) (w := wStep x) (by omega), d_f h1, cond_false]
    exact h

/-! laws.szStepS -/
noncomputable def a_laws_szStepS : Nat → Option Ann := fun n => bif Nat.beq n 5 then some ⟨[0,1,5],0,false⟩ else none
noncomputable def c_laws_szStepS : Ctx := mkC Tryd.prog tyT [(103, s_laws_szStep)] [] [] 27 a_laws_szStepS 0
noncomputable def fr_laws_szStepS_5 (xs : List (StepD)) (n i : Int) : Fr := [(0, .vec (tSt) xs), (1, .int .i64 n), (5, .int .i64 i)]
theorem r_laws_szStepS_5 (xs : List (StepD)) (n i : Int) (Kn : Fr → Heap → Prop) (K : V → Heap → Prop) : round c_laws_szStepS ⟨[0,1,5],0,false⟩ (lb c_laws_szStepS 5 Tryd.f65) (fr_laws_szStepS_5 xs n i) [] Kn (lk c_laws_szStepS 5 Tryd.f65 [] K) =
  cond (decide (i < (↑(List.length xs) : Int)))
    (cond (decide (0 ≤ i))
      ((match xs[Int.toNat i]? with
        | some y0 => cond (decide (n ≤ 1048576) && decide (0 ≤ n))
          (cond (decide (szV n (wStep y0) < 0))
            (K (.int .i64 (-1)) [])
            (Kn [(0, (.vec (.pair (.int .i64) (.pair (.int .i64) (.pair (.int .i64) (.pair (.int .i64) (.pair (.int .i64) (.pair (.int .i64) (.pair (.int .i64) (.slice (.float .f32))))))))) (xs))), (1, (.int .i64 (szV n (wStep y0)))), (5, (.int .i64 (IntKind.wrap IntKind.i64 (i + 1))))] []))
          (False)
        | none => False))
      (False))
    (K (.int .i64 (n)) []) := by kernel_rfl
theorem w_laws_szStepS (xs : List (StepD)) (n : Int) (K : V → Heap → Prop) : wpFn c_laws_szStepS Tryd.f65 (encAs [.cell (.slice (tSt)), .cell (.int .i64)] (xs, n, ())) [] K =
  cond (decide (IntKind.wrap IntKind.i64 (n - (↑(List.length xs) : Int)) < 0))
    (K (.int .i64 (-1)) [])
    (LoopE c_laws_szStepS ⟨[0, 1, 5], 0, false⟩ (lb c_laws_szStepS 5 Tryd.f65) [(0, (.vec (.pair (.int .i64) (.pair (.int .i64) (.pair (.int .i64) (.pair (.int .i64) (.pair (.int .i64) (.pair (.int .i64) (.pair (.int .i64) (.slice (.float .f32))))))))) (xs))), (1, (.int .i64 (IntKind.wrap IntKind.i64 (n - (↑(List.length xs) : Int))))), (5, (.int .i64 0))] [] (lk c_laws_szStepS 5 Tryd.f65 [] K)) := by kernel_rfl
noncomputable def s_laws_szStepS : Sm := semG [.cell (.slice (tSt)), .cell (.int .i64)] (fun x => match x with | (xs, n, _) => decide (n ≤ 1048576) && decide (0 ≤ n)) fun x => match x with | (xs, n, _) => .int .i64 (szV n (wList (wStep) xs))
theorem ok_laws_szStepS : FnOk Tryd.prog 65 s_laws_szStepS := fnOk_typedG (fnOk_runC (C := c_laws_szStepS) rfl mixed (.cons ok_laws_szStep .nil) .nil .nil Tryd.func65 (by kernel_rfl)) fun (x : ((List (StepD)) × (Int) × Unit)) wf hg K h => by
  obtain ⟨xs, n, ⟨⟩⟩ := x
  replace hg : (decide (n ≤ 1048576) && decide (0 ≤ n)) = true := hg
  replace h : K (.int .i64 (szV n (wList (wStep) xs))) [] := h
  rw [w_laws_szStepS xs n K]
  obtain ⟨⟨wl, wx⟩, wn, _⟩ := wf
  have wl' : xs.length ≤ 9223372036854775807 := wl
  simp only [Bool.and_eq_true, decide_eq_true_eq] at hg
  rw [i64_of (by omega) (by omega)]
  by_cases hn : n - (xs.length : Int) < 0
  · simp only [d_t hn, cond_true]
    rw [szV_no (w := wList (wStep) xs) (by have := wList_ge (wStep) xs; omega)] at h
    exact h
  · simp only [d_f hn, cond_false]
    have e0 : n - (xs.length : Int) = n - (xs.length : Int) - ((((xs.take 0).map (wStep)).sum : Nat) : Int) := by simp
    rw [e0]
    refine loop_run (σ := Nat) (fun i => fr_laws_szStepS_5 xs (n - (xs.length : Int) - ((xs.take i).map (wStep)).sum) i) (fun _ => []) (fun i => i ≤ xs.length ∧ (((xs.take i).map (wStep)).sum : Int) ≤ n - (xs.length : Int)) (fun i => xs.length - i) ?_ 0 ⟨Nat.zero_le _, by simp; omega⟩
    intro i hi Kn hk
    rw [r_laws_szStepS_5 xs (n - (xs.length : Int) - ((xs.take i).map (wStep)).sum) i Kn K]
    by_cases hlt : i < xs.length
    · simp only [d_lt hlt, d_0, cond_true, Int.toNat_natCast, get_lt hlt]
      have hs := sum_take (wStep) hlt
      have hle := sum_le (wStep) xs (i + 1)
      generalize hW : ((xs.take i).map (wStep)).sum = W at *
      have hg1 : n - (xs.length : Int) - (W : Int) ≤ 1048576 := by omega
      have hg2 : 0 ≤ n - (xs.length : Int) - (W : Int) := by omega
      simp only [d_t hg1, d_t hg2, Bool.and_self, cond_true]
      by_cases h1 : n - (xs.length : Int) - (W : Int) - (((wStep) (xs[i]'hlt) : Nat) : Int) < 0
      · simp only [szV_no h1, show decide ((-1 : Int) < 0) = true from rfl, cond_true]
        rw [szV_no (w := wList (wStep) xs) (by simp only [wList]; omega)] at h
        exact h
      · simp only [szV_ok (w := (wStep) (xs[i]'hlt)) (n := n - (xs.length : Int) - (W : Int)) (by omega), d_f h1, cond_false]
        rw [i64_of (by omega) (by omega)]
        have := hk (i + 1) ⟨hlt, by omega⟩ (by omega)
        rw [hs, show n - (xs.length : Int) - ((W + (wStep) (xs[i]'hlt) : Nat) : Int) = n - (xs.length : Int) - (W : Int) - (((wStep) (xs[i]'hlt) : Nat) : Int) by omega] at this
        exact this
    · have : i = xs.length := by omega
      subst this
      simp only [d_nlt hlt, cond_false, List.take_length]
      have h2 := hi.2
      rw [List.take_length] at h2
      rw [szV_ok (w := wList (wStep) xs) (by simp only [wList]; omega), show n - ((wList (wStep) xs : Nat) : Int) = n - (xs.length : Int) - ((xs.map (wStep)).sum : Int) by simp only [wList]; omega] at h
      exact h


/-! laws.szProgram -/
noncomputable def c_laws_szProgram : Ctx := mkC Tryd.prog tyT [(65, s_laws_szStepS)] [] [] 12 (fun _ => none) 0
theorem w_laws_szProgram (p q : Int) (ss : List StepD) (n : Int) (K : V → Heap → Prop) : wpFn c_laws_szProgram Tryd.f27 (encAs [.agg tP, .cell tI] ((p, q, ss), n, ())) [] K =
  cond (decide (n ≤ 1048576) && decide (0 ≤ n))
    (cond (decide (szV n (wList wStep ss) < 0))
      (K (.int .i64 (-1)) [])
      (K (.int .i64 (szV n (wList wStep ss))) []))
    (False) := by kernel_rfl
noncomputable def s_laws_szProgram : Sm := semG [.agg tP, .cell tI] (fun x => match x with | ((p, q, ss), n, _) => decide (n ≤ 1048576) && decide (0 ≤ n)) fun x => match x with | ((p, q, ss), n, _) => .int .i64 (szV n (wProg ss))
theorem ok_laws_szProgram : FnOk Tryd.prog 27 s_laws_szProgram := fnOk_typedG (fnOk_runC (C := c_laws_szProgram) rfl mixed (.cons ok_laws_szStepS .nil) .nil .nil Tryd.func27 (by kernel_rfl)) fun (x : (((Int) × (Int) × (List StepD)) × (Int) × Unit)) wf hg K h => by
  obtain ⟨⟨p, q, ss⟩, n, ⟨⟩⟩ := x
  replace hg : (decide (n ≤ 1048576) && decide (0 ≤ n)) = true := hg
  replace h : K (.int .i64 (szV n (wProg ss))) [] := h
  rw [w_laws_szProgram p q ss n K]
  rw [hg]
  simp only [cond_true]
  by_cases h1 : n - (wProg ss : Int) < 0
  · rw [szV_no h1] at h
    simp only [show wList wStep ss = wProg ss from rfl, szV_no h1]
    exact h
  · rw [szV_ok (by omega)] at h
    simp only [show wList wStep ss = wProg ss from rfl, szV_ok (n := n) (w := wProg ss) (by omega), d_f h1, cond_false]
    exact h

def fitX (x : StepD) : Bool := decide (x.2.2.2.2.2.2.2.length ≤ 1048576)

/-! laws.toStep -/
noncomputable def c_laws_toStep : Ctx := mkC Tryd.prog tyT [(95, s_laws_toNode)] [] [] 21 (fun _ => none) 0
theorem w_laws_toStep (x : StepD) (K : V → Heap → Prop) : wpFn c_laws_toStep Tryd.f105 (encAs [.agg tSt] (x, ())) [] K =
  cond (decide (List.length (Prod.snd (Prod.snd (Prod.snd (Prod.snd (Prod.snd (Prod.snd (Prod.snd x))))))) ≤ 1048576))
    (K (.agg [(.int .i64 (Prod.fst x)), (.int .i64 (Prod.fst (Prod.snd x))), (.int .i64 (Prod.fst (Prod.snd (Prod.snd x)))), (.int .i64 (Prod.fst (Prod.snd (Prod.snd (Prod.snd x))))), (.int .i64 (Prod.fst (Prod.snd (Prod.snd (Prod.snd (Prod.snd x)))))), (.int .i64 (Prod.fst (Prod.snd (Prod.snd (Prod.snd (Prod.snd (Prod.snd x))))))), (.int .i64 (Prod.fst (Prod.snd (Prod.snd (Prod.snd (Prod.snd (Prod.snd (Prod.snd x)))))))), (.vec (.float .f32) (Prod.snd (Prod.snd (Prod.snd (Prod.snd (Prod.snd (Prod.snd (Prod.snd x))))))))]) [])
    (False) := by kernel_rfl
noncomputable def s_laws_toStep : Sm := semG [.agg tSt] (fun x => match x with | (x, _) => fitX x) fun x => match x with | (x, _) => .agg (enc tSt x)
theorem ok_laws_toStep : FnOk Tryd.prog 105 s_laws_toStep := fnOk_typedG (fnOk_runC (C := c_laws_toStep) rfl mixed (.cons ok_laws_toNode .nil) .nil .nil Tryd.func105 (by kernel_rfl)) fun (x : ((StepD) × Unit)) wf hg K h => by
  obtain ⟨x, ⟨⟩⟩ := x
  replace hg : (fitX x) = true := hg
  replace h : K (.agg (enc tSt x)) [] := h
  rw [w_laws_toStep x K]
  rw [show decide (x.2.2.2.2.2.2.2.length ≤ 1048576) = true from hg]
  exact h

/-! laws.toStepS -/
noncomputable def a_laws_toStepS : Nat → Option Ann := fun n => bif Nat.beq n 3 then some ⟨[0,3,4],1,false⟩ else none
noncomputable def c_laws_toStepS : Ctx := mkC Tryd.prog tyT [(105, s_laws_toStep)] [] [] 23 a_laws_toStepS 0
noncomputable def fr_laws_toStepS_3 (xs ys : List (StepD)) (i : Int) : Fr := [(0, .vec (tSt) xs), (3, .obj 0 0), (4, .int .i64 i)]
noncomputable def hp_laws_toStepS_3 (xs ys : List (StepD)) (i : Int) : Heap := [.sl 0 (tSt) ys]
theorem r_laws_toStepS_3 (xs ys : List (StepD)) (i : Int) (Kn : Fr → Heap → Prop) (K : V → Heap → Prop) : round c_laws_toStepS ⟨[0,3,4],1,false⟩ (lb c_laws_toStepS 3 Tryd.f68) (fr_laws_toStepS_3 xs ys i) (hp_laws_toStepS_3 xs ys i) Kn (lk c_laws_toStepS 3 Tryd.f68 [] K) =
  cond (decide (i < (↑(List.length xs) : Int)))
    (cond (decide (0 ≤ i))
      ((match xs[Int.toNat i]? with
        | some y0 => cond (fitX y0)
          (cond (decide (0 ≤ i) && Nat.blt (Int.toNat i) (List.length ys))
            ((match ys[Int.toNat i]? with
              | some x1 => Kn [(0, (.vec (.pair (.int .i64) (.pair (.int .i64) (.pair (.int .i64) (.pair (.int .i64) (.pair (.int .i64) (.pair (.int .i64) (.pair (.int .i64) (.slice (.float .f32))))))))) (xs))), (3, (.obj 0 0)), (4, (.int .i64 (IntKind.wrap IntKind.i64 (i + 1))))] [(.sl 0 (.pair (.int .i64) (.pair (.int .i64) (.pair (.int .i64) (.pair (.int .i64) (.pair (.int .i64) (.pair (.int .i64) (.pair (.int .i64) (.slice (.float .f32))))))))) (List.set ys (Int.toNat i) y0))]
              | none => False))
            (False))
          (False)
        | none => False))
      (False))
    (K (.vec (.pair (.int .i64) (.pair (.int .i64) (.pair (.int .i64) (.pair (.int .i64) (.pair (.int .i64) (.pair (.int .i64) (.pair (.int .i64) (.slice (.float .f32))))))))) (ys)) []) := by kernel_rfl
theorem w_laws_toStepS (xs : List (StepD)) (K : V → Heap → Prop) : wpFn c_laws_toStepS Tryd.f68 (encAs [.cell (.slice (tSt))] (xs, ())) [] K =
  cond (decide (0 ≤ (↑(List.length xs) : Int)) && (decide ((↑(List.length xs) : Int) ≤ (↑(List.length xs) : Int)) && decide ((↑80 : Int) * (↑(List.length xs) : Int) ≤ 281474976710656)))
    (LoopE c_laws_toStepS ⟨[0, 3, 4], 1, false⟩ (lb c_laws_toStepS 3 Tryd.f68) [(0, (.vec (.pair (.int .i64) (.pair (.int .i64) (.pair (.int .i64) (.pair (.int .i64) (.pair (.int .i64) (.pair (.int .i64) (.pair (.int .i64) (.slice (.float .f32))))))))) (xs))), (3, (.obj 0 0)), (4, (.int .i64 0))] [(.sl 0 (.pair (.int .i64) (.pair (.int .i64) (.pair (.int .i64) (.pair (.int .i64) (.pair (.int .i64) (.pair (.int .i64) (.pair (.int .i64) (.slice (.float .f32))))))))) (List.replicate (Int.toNat (↑(List.length xs) : Int)) (0, 0, 0, 0, 0, 0, 0, [])))] (lk c_laws_toStepS 3 Tryd.f68 [] K))
    (False) := by kernel_rfl
noncomputable def s_laws_toStepS : Sm := semG [.cell (.slice (tSt))] (fun x => match x with | (xs, _) => decide (xs.length ≤ 1048576) && xs.all fitX) fun x => match x with | (xs, _) => .vec (tSt) xs
theorem ok_laws_toStepS : FnOk Tryd.prog 68 s_laws_toStepS := fnOk_typedG (fnOk_runC (C := c_laws_toStepS) rfl mixed (.cons ok_laws_toStep .nil) .nil .nil Tryd.func68 (by kernel_rfl)) fun (x : ((List (StepD)) × Unit)) wf hg K h => by
  obtain ⟨xs, ⟨⟩⟩ := x
  replace hg : (decide (xs.length ≤ 1048576) && xs.all fitX) = true := hg
  replace h : K (.vec (tSt) xs) [] := h
  rw [w_laws_toStepS xs K]
  simp only [Bool.and_eq_true, decide_eq_true_eq] at hg
  obtain ⟨hg, hg2⟩ := hg
  rw [d_0, d_t (Int.le_refl _), d_t (by omega)]
  simp only [Bool.and_self, cond_true, Int.toNat_natCast]
  refine loop_run (σ := Nat) (fun i => fr_laws_toStepS_3 xs [] i) (fun i => hp_laws_toStepS_3 xs (xs.take i ++ List.replicate (xs.length - i) (0, 0, 0, 0, 0, 0, 0, [])) i) (fun i => i ≤ xs.length) (fun i => xs.length - i) ?_ 0 (Nat.zero_le _)
  intro i hi Kn hk
  rw [show fr_laws_toStepS_3 xs [] i = fr_laws_toStepS_3 xs (xs.take i ++ List.replicate (xs.length - i) (0, 0, 0, 0, 0, 0, 0, [])) i from rfl, r_laws_toStepS_3 xs (xs.take i ++ List.replicate (xs.length - i) (0, 0, 0, 0, 0, 0, 0, [])) i Kn K]
  by_cases hlt : i < xs.length
  · have hl : (xs.take i ++ List.replicate (xs.length - i) (0, 0, 0, 0, 0, 0, 0, [])).length = xs.length := by rw [List.length_append, List.length_take, List.length_replicate]; omega
    have hl' : i < (xs.take i ++ List.replicate (xs.length - i) (0, 0, 0, 0, 0, 0, 0, [])).length := by omega
    have hx : fitX (xs[i]'hlt) = true := List.all_eq_true.1 hg2 _ (List.getElem_mem hlt)
    simp only [d_lt hlt, d_0, cond_true, Int.toNat_natCast, get_lt hlt, blt_t hl', get_lt hl', Bool.and_self, hx]
    rw [i64_of (by omega) (by omega), copy_step hlt rfl rfl]
    exact hk (i + 1) hlt (by omega)
  · have : i = xs.length := by omega
    subst this
    simp only [d_nlt hlt, cond_false, List.take_length, Nat.sub_self, List.replicate_zero, List.append_nil]
    exact h

/-! laws.toProgram -/
noncomputable def c_laws_toProgram : Ctx := mkC Tryd.prog tyT [(68, s_laws_toStepS)] [] [] 15 (fun _ => none) 0
theorem w_laws_toProgram (p q : Int) (ss : List StepD) (K : V → Heap → Prop) : wpFn c_laws_toProgram Tryd.f29 (encAs [.agg tP] ((p, q, ss), ())) [] K =
  cond (decide (List.length ss ≤ 1048576) && List.all ss fitX)
    (K (.agg [(.int .i64 (p)), (.int .i64 (q)), (.vec (.pair (.int .i64) (.pair (.int .i64) (.pair (.int .i64) (.pair (.int .i64) (.pair (.int .i64) (.pair (.int .i64) (.pair (.int .i64) (.slice (.float .f32))))))))) (ss))]) [])
    (False) := by kernel_rfl
noncomputable def s_laws_toProgram : Sm := semG [.agg tP] (fun x => match x with | ((p, q, ss), _) => decide (ss.length ≤ 1048576) && ss.all fitX) fun x => match x with | ((p, q, ss), _) => .agg [.int .i64 p, .int .i64 q, .vec tSt ss]
theorem ok_laws_toProgram : FnOk Tryd.prog 29 s_laws_toProgram := fnOk_typedG (fnOk_runC (C := c_laws_toProgram) rfl mixed (.cons ok_laws_toStepS .nil) .nil .nil Tryd.func29 (by kernel_rfl)) fun (x : (((Int) × (Int) × (List StepD)) × Unit)) wf hg K h => by
  obtain ⟨⟨p, q, ss⟩, ⟨⟩⟩ := x
  replace hg : (decide (ss.length ≤ 1048576) && ss.all fitX) = true := hg
  replace h : K (.agg [.int .i64 p, .int .i64 q, .vec tSt ss]) [] := h
  rw [w_laws_toProgram p q ss K]
  rw [hg]
  exact h

/-! laws.eqStep -/
noncomputable def c_laws_eqStep : Ctx := mkC Tryd.prog tyT [(102, s_laws_eqNode)] [] [] 31 (fun _ => none) 0
theorem w_laws_eqStep (u v : StepD) (K : V → Heap → Prop) : wpFn c_laws_eqStep Tryd.f108 (encAs [.agg tSt, .agg tSt] (u, v, ())) [] K =
  cond (Prod.fst u != Prod.fst v)
    (K (.bool false) [])
    (cond (Prod.fst (Prod.snd u) != Prod.fst (Prod.snd v))
      (K (.bool false) [])
      (cond (Prod.fst (Prod.snd (Prod.snd u)) != Prod.fst (Prod.snd (Prod.snd v)))
        (K (.bool false) [])
        (cond (Prod.fst (Prod.snd (Prod.snd (Prod.snd u))) != Prod.fst (Prod.snd (Prod.snd (Prod.snd v))))
          (K (.bool false) [])
          (cond (Prod.snd (Prod.snd (Prod.snd (Prod.snd u))) == Prod.snd (Prod.snd (Prod.snd (Prod.snd v))))
            (K (.bool true) [])
            (False))))) := by kernel_rfl
noncomputable def s_laws_eqStep : Sm := semG [.agg tSt, .agg tSt] (fun x => match x with | (u, v, _) => u == v) fun x => match x with | (u, v, _) => .bool true
theorem ok_laws_eqStep : FnOk Tryd.prog 108 s_laws_eqStep := fnOk_typedG (fnOk_runC (C := c_laws_eqStep) rfl mixed (.cons ok_laws_eqNode .nil) .nil .nil Tryd.func108 (by kernel_rfl)) fun (x : ((StepD) × (StepD) × Unit)) wf hg K h => by
  obtain ⟨u, v, ⟨⟩⟩ := x
  replace hg : (u == v) = true := hg
  replace h : K (.bool true) [] := h
  rw [w_laws_eqStep u v K]
  have e : u = v := by simpa using hg
  subst e
  simp only [beq_self_eq_true, bne_self_eq_false, cond_true, cond_false, Bool.not_true]
  exact h

/-! laws.eqStepS -/
noncomputable def a_laws_eqStepS : Nat → Option Ann := fun n => bif Nat.beq n 4 then some ⟨[0,1,5],0,false⟩ else none
noncomputable def c_laws_eqStepS : Ctx := mkC Tryd.prog tyT [(108, s_laws_eqStep)] [] [] 27 a_laws_eqStepS 0
noncomputable def fr_laws_eqStepS_4 (xs ys : List (StepD)) (i : Int) : Fr := [(0, .vec (tSt) xs), (1, .vec (tSt) ys), (5, .int .i64 i)]
theorem r_laws_eqStepS_4 (xs ys : List (StepD)) (i : Int) (Kn : Fr → Heap → Prop) (K : V → Heap → Prop) : round c_laws_eqStepS ⟨[0,1,5],0,false⟩ (lb c_laws_eqStepS 4 Tryd.f70) (fr_laws_eqStepS_4 xs ys i) [] Kn (lk c_laws_eqStepS 4 Tryd.f70 [] K) =
  cond (decide (i < (↑(List.length xs) : Int)))
    (cond (decide (0 ≤ i))
      ((match xs[Int.toNat i]? with
        | some y0 => cond (decide (0 ≤ i))
          ((match ys[Int.toNat i]? with
            | some y1 => cond (y0 == y1)
              (Kn [(0, (.vec (.pair (.int .i64) (.pair (.int .i64) (.pair (.int .i64) (.pair (.int .i64) (.pair (.int .i64) (.pair (.int .i64) (.pair (.int .i64) (.slice (.float .f32))))))))) (xs))), (1, (.vec (.pair (.int .i64) (.pair (.int .i64) (.pair (.int .i64) (.pair (.int .i64) (.pair (.int .i64) (.pair (.int .i64) (.pair (.int .i64) (.slice (.float .f32))))))))) (ys))), (5, (.int .i64 (IntKind.wrap IntKind.i64 (i + 1))))] [])
              (False)
            | none => False))
          (False)
        | none => False))
      (False))
    (K (.bool true) []) := by kernel_rfl
theorem w_laws_eqStepS (xs ys : List (StepD)) (K : V → Heap → Prop) : wpFn c_laws_eqStepS Tryd.f70 (encAs [.cell (.slice (tSt)), .cell (.slice (tSt))] (xs, ys, ())) [] K =
  cond ((↑(List.length xs) : Int) != (↑(List.length ys) : Int))
    (K (.bool false) [])
    (LoopE c_laws_eqStepS ⟨[0, 1, 5], 0, false⟩ (lb c_laws_eqStepS 4 Tryd.f70) [(0, (.vec (.pair (.int .i64) (.pair (.int .i64) (.pair (.int .i64) (.pair (.int .i64) (.pair (.int .i64) (.pair (.int .i64) (.pair (.int .i64) (.slice (.float .f32))))))))) (xs))), (1, (.vec (.pair (.int .i64) (.pair (.int .i64) (.pair (.int .i64) (.pair (.int .i64) (.pair (.int .i64) (.pair (.int .i64) (.pair (.int .i64) (.slice (.float .f32))))))))) (ys))), (5, (.int .i64 0))] [] (lk c_laws_eqStepS 4 Tryd.f70 [] K)) := by kernel_rfl
noncomputable def s_laws_eqStepS : Sm := semG [.cell (.slice (tSt)), .cell (.slice (tSt))] (fun x => match x with | (xs, ys, _) => xs == ys) fun x => match x with | (xs, ys, _) => .bool true
theorem ok_laws_eqStepS : FnOk Tryd.prog 70 s_laws_eqStepS := fnOk_typedG (fnOk_runC (C := c_laws_eqStepS) rfl mixed (.cons ok_laws_eqStep .nil) .nil .nil Tryd.func70 (by kernel_rfl)) fun (x : ((List (StepD)) × (List (StepD)) × Unit)) wf hg K h => by
  obtain ⟨xs, ys, ⟨⟩⟩ := x
  replace hg : (xs == ys) = true := hg
  replace h : K (.bool true) [] := h
  rw [w_laws_eqStepS xs ys K]
  have e : xs = ys := by simpa using hg
  subst e
  obtain ⟨⟨wl, _⟩, _⟩ := wf
  rw [bne_self_eq_false, cond_false]
  refine loop_run (σ := Nat) (fun i => fr_laws_eqStepS_4 xs xs i) (fun _ => []) (fun i => i ≤ xs.length) (fun i => xs.length - i) ?_ 0 (Nat.zero_le _)
  intro i hi Kn hk
  rw [r_laws_eqStepS_4 xs xs i Kn K]
  by_cases hlt : i < xs.length
  · simp only [d_lt hlt, d_0, cond_true, Int.toNat_natCast, get_lt hlt, beq_self_eq_true]
    have hm : xs.length ≤ 9223372036854775807 := wl
    rw [i64_of (by omega) (by omega)]
    exact hk (i + 1) hlt (by omega)
  · simp only [d_nlt hlt, cond_false]
    exact h

/-! laws.eqProgram -/
noncomputable def c_laws_eqProgram : Ctx := mkC Tryd.prog tyT [(70, s_laws_eqStepS)] [] [] 21 (fun _ => none) 0
theorem w_laws_eqProgram (u v : ProgD) (K : V → Heap → Prop) : wpFn c_laws_eqProgram Tryd.f31 (encAs [.agg tP, .agg tP] (u, v, ())) [] K =
  cond (Prod.fst u != Prod.fst v)
    (K (.bool false) [])
    (cond (Prod.fst (Prod.snd u) != Prod.fst (Prod.snd v))
      (K (.bool false) [])
      (cond (Prod.snd (Prod.snd u) == Prod.snd (Prod.snd v))
        (K (.bool true) [])
        (False))) := by kernel_rfl
noncomputable def s_laws_eqProgram : Sm := semG [.agg tP, .agg tP] (fun x => match x with | (u, v, _) => u == v) fun x => match x with | (u, v, _) => .bool true
theorem ok_laws_eqProgram : FnOk Tryd.prog 31 s_laws_eqProgram := fnOk_typedG (fnOk_runC (C := c_laws_eqProgram) rfl mixed (.cons ok_laws_eqStepS .nil) .nil .nil Tryd.func31 (by kernel_rfl)) fun (x : ((ProgD) × (ProgD) × Unit)) wf hg K h => by
  obtain ⟨u, v, ⟨⟩⟩ := x
  replace hg : (u == v) = true := hg
  replace h : K (.bool true) [] := h
  rw [w_laws_eqProgram u v K]
  have e : u = v := by simpa using hg
  subst e
  simp only [beq_self_eq_true, bne_self_eq_false, cond_true, cond_false, Bool.not_true]
  exact h

/-! laws.FnExactProgramText -/
noncomputable def c_laws_FnExactProgramText : Ctx := mkC Tryd.prog tyT [(27, s_laws_szProgram), (29, s_laws_toProgram), (28, s_spec_ProgramText), (30, s_impl_ProgramText), (31, s_laws_eqProgram)] [] [] 40 (fun _ => none) 0
theorem w_laws_FnExactProgramText (p q : Int) (ss : List StepD) (K : V → Heap → Prop) : wpFn c_laws_FnExactProgramText Tryd.f7 (encAs [.agg tP] ((p, q, ss), ())) [] K =
  cond (decide (szV 1048576 (wProg ss) < 0))
    (K (.bool true) [])
    (cond (decide (List.length ss ≤ 1048576) && List.all ss fitX)
      (cond (decide (List.length ss ≤ 1048576) && List.all ss fitX)
        (cond (!bytesEq (bif validP p q ss then progT p q ss else []) (bif validP p q ss then progT p q ss else []))
          (K (.bool false) [])
          (cond (validP p q ss != validP p q ss)
            (K (.bool false) [])
            (cond (decide (List.length ss ≤ 1048576) && List.all ss fitX)
              (cond ((p, q, ss) == (p, q, ss))
                (K (.bool true) [])
                (False))
              (False))))
        (False))
      (False)) := by kernel_rfl
noncomputable def s_laws_FnExactProgramText : Sm := semT [.agg tP] fun x => match x with | ((p, q, ss), _) => .bool true
theorem ok_laws_FnExactProgramText : FnOk Tryd.prog 7 s_laws_FnExactProgramText := fnOk_typed (fnOk_runC (C := c_laws_FnExactProgramText) rfl mixed (.cons ok_laws_szProgram (.cons ok_laws_toProgram (.cons ok_spec_ProgramText (.cons ok_impl_ProgramText (.cons ok_laws_eqProgram .nil))))) .nil .nil Tryd.func7 (by kernel_rfl)) fun (x : (((Int) × (Int) × (List StepD)) × Unit)) wf K h => by
  obtain ⟨⟨p, q, ss⟩, ⟨⟩⟩ := x
  replace h : K (.bool true) [] := h
  rw [w_laws_FnExactProgramText p q ss K]
  by_cases h1 : (1048576 : Int) - (wProg ss : Int) < 0
  · simp only [szV_no h1]
    exact h
  · have e1 : szV 1048576 (wProg ss) = 1048576 - wProg ss := szV_ok (by omega)
    have g1 := wList_ge wStep ss
    have hw : wProg ss = wList wStep ss := rfl
    have hfit : ss.all fitX = true := List.all_eq_true.2 fun x hx => decide_eq_true (by
      have := mem_le wStep hx
      have e : wStep x = x.2.2.2.2.2.2.2.length := rfl
      unfold wList at hw
      omega)
    simp only [e1, d_f h1, cond_false, d_t (show ss.length ≤ 1048576 by omega), hfit, Bool.and_self, cond_true, bne_self_eq_false, beq_self_eq_true, bytesEq, Bool.not_true]
    exact h

end Go.Proofs.YtobdbgdgingjjaaDoor
