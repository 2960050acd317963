/- Texts of programs. -/
import Derived.Test.YtobdbgdgingjjaaDoorSaid
set_option linter.unusedVariables false
set_option linter.unusedSimpArgs false
set_option maxRecDepth 100000
namespace Go.Proofs.YtobdbgdgingjjaaDoor
open Go.Ev
abbrev tSt : Ty := .pair tI (.pair tI (.pair tI (.pair tI tN)))
abbrev StepD := Int × Int × Int × Int × NodeD
abbrev tP : Ty := .pair tI (.pair tI (.slice tSt))
abbrev ProgD := Int × Int × List StepD

/-! plain -/
--B stepN Int × Int × Int × List Nat → Bool
def stepN (n : NodeD) : Bool := numsB n.1 n.2.2.2 && (n.2.1 == 0 && (n.2.2.1 == 0 || (kindA n.1 && inR n.2.2.1 0 2)))
--B stepB Int → Int → (Int × Int × Int × Int × Int × Int × Int × List Nat) → Bool
def stepB (p q : Int) (x : StepD) : Bool := stepN x.2.2.2.2 &&
  (bif x.1 == 0 then (inR x.2.2.2.2.1 9 14 && (inR x.2.1 1 (p - 1) && (inR x.2.2.1 0 (p - 1) && x.2.2.2.1 == 0)))
   else bif x.1 == 1 then (inR x.2.2.2.2.1 0 4 && (inR x.2.1 0 (q - 1) && (inR x.2.2.1 0 (p - 1) && x.2.2.2.1 == 0)))
   else bif x.1 == 2 then (!inR x.2.2.2.2.1 0 4 && ((!inR x.2.2.2.2.1 9 14 || x.2.2.2.2.1 == 10) && (inR x.2.1 0 (q - 1) && (inR x.2.2.1 0 (q - 1) && (bif inR x.2.2.2.2.1 5 8 then inR x.2.2.2.1 0 (q - 1) else x.2.2.2.1 == 0)))))
   else false)
--B lastB List (Int × Int × Int × Int × Int × Int × Int × List Nat) → Bool
def lastB (ss : List StepD) : Bool := match ss[ss.length - 1]? with
  | some x => x.2.1 == 0 && !(x.1 == 0)
  | none => false
--B validP Int → Int → List (Int × Int × Int × Int × Int × Int × Int × List Nat) → Bool
def validP (p q : Int) (ss : List StepD) : Bool := inR p 1 18 && (inR q 1 18 && (inR ss.length 1 40 && (!ss.any (fun x => !stepB p q x) && lastB ss)))
theorem kindA_eq {k : Int} (h : isK k = true) : kindA k = inR k 12 14 := by
  rcases kinds h with e | e | e | e | e | e | e | e | e | e | e | e | e | e | e | e | e <;> subst e <;> rfl
theorem kindC_0 {k : Int} (h : isK k = true) : (kindC k == 0) = inR k 0 4 := by
  rcases kinds h with e | e | e | e | e | e | e | e | e | e | e | e | e | e | e | e | e <;> subst e <;> rfl
theorem kindC_pos {k : Int} (h : isK k = true) : decide (kindC k > 0) = !inR k 0 4 := by
  rcases kinds h with e | e | e | e | e | e | e | e | e | e | e | e | e | e | e | e | e <;> subst e <;> rfl
theorem kindC_2 {k : Int} (h : isK k = true) : (kindC k == 2) = inR k 5 8 := by
  rcases kinds h with e | e | e | e | e | e | e | e | e | e | e | e | e | e | e | e | e <;> subst e <;> rfl
theorem numsB_isK {k : Int} {xs : List Nat} (h : numsB k xs = true) : isK k = true := by
  unfold numsB at h
  simp only [Bool.and_eq_true] at h
  exact h.1
theorem numsB_no {k : Int} {xs : List Nat} (h : isK k = false) : numsB k xs = false := by
  unfold numsB
  rw [h]; rfl

/-! impl.registersOk -/
noncomputable def c_impl_registersOk : Ctx := mkC Tryd.prog tyT [(72, s_impl_in)] [] [] 5 (fun _ => none) 0
theorem w_impl_registersOk (n : Int) (K : V → Heap → Prop) : wpFn c_impl_registersOk Tryd.f106 (encAs [.cell tI] (n, ())) [] K =
  K (.bool (inR n 1 18)) [] := by kernel_rfl
noncomputable def s_impl_registersOk : Sm := semT [.cell tI] fun x => match x with | (n, _) => .bool (inR n 1 18)
theorem ok_impl_registersOk : FnOk Tryd.prog 106 s_impl_registersOk := fnOk_typed (fnOk_runC (C := c_impl_registersOk) rfl mixed (.cons ok_impl_in .nil) .nil .nil Tryd.func106 (by kernel_rfl)) fun (x : ((Int) × Unit)) wf K h => by
  obtain ⟨n, ⟨⟩⟩ := x
  replace h : K (.bool (inR n 1 18)) [] := h
  rw [w_impl_registersOk n K]
  exact h

/-! impl.points -/
noncomputable def c_impl_points : Ctx := mkC Tryd.prog tyT [] [] [] 11 (fun _ => none) 0
theorem w_impl_points (k : Int) (K : V → Heap → Prop) : wpFn c_impl_points Tryd.f136 (encAs [.cell tI] (k, ())) [] K =
  cond (k == 9)
    (cond (k == 9)
      (K (.bool true) [])
      (K (.bool false) []))
    (cond (k == 10)
      (cond (k == 10)
        (K (.bool true) [])
        (K (.bool false) []))
      (cond (k == 11)
        (cond (k == 11)
          (K (.bool true) [])
          (K (.bool false) []))
        (cond (k == 12)
          (cond (k == 12)
            (K (.bool true) [])
            (K (.bool false) []))
          (cond (k == 13)
            (cond (k == 13)
              (K (.bool true) [])
              (K (.bool false) []))
            (cond (k == 14)
              (K (.bool true) [])
              (K (.bool false) [])))))) := by kernel_rfl
noncomputable def s_impl_points : Sm := semT [.cell tI] fun x => match x with | (k, _) => .bool (inR k 9 14)
theorem ok_impl_points : FnOk Tryd.prog 136 s_impl_points := fnOk_typed (fnOk_runC (C := c_impl_points) rfl mixed .nil .nil .nil Tryd.func136 (by kernel_rfl)) fun (x : ((Int) × Unit)) wf K h => by
  obtain ⟨k, ⟨⟩⟩ := x
  replace h : K (.bool (inR k 9 14)) [] := h
  rw [w_impl_points k K]
  cases hk : inR k 9 14 with
  | true =>
    rw [hk] at h
    have := inR_iff.1 hk
    have hc : k = 9 ∨ k = 10 ∨ k = 11 ∨ k = 12 ∨ k = 13 ∨ k = 14 := by omega
    rcases hc with e | e | e | e | e | e <;> subst e <;> exact h
  | false =>
    rw [hk] at h
    have ne : ∀ j : Int, 9 ≤ j ∧ j ≤ 14 → (k == j) = false := fun j hj => beq_eq_false_iff_ne.2 fun e => by
      subst e
      rw [inR_iff.2 hj] at hk
      cases hk
    simp only [ne 9 (by decide), ne 10 (by decide), ne 11 (by decide), ne 12 (by decide), ne 13 (by decide), ne 14 (by decide), cond_false]
    exact h

/-! (*impl.Step).ok$1 -/
noncomputable def c_impl_Step_ok_1 : Ctx := mkC Tryd.prog tyT [(72, s_impl_in)] [] [] 11 (fun _ => none) 0
theorem w_impl_Step_ok_1 (i : Int) (p q : Int) (ss : List StepD) (K : V → Heap → Prop) : wpFn c_impl_Step_ok_1 Tryd.f134 (encAs [.cell tI, .refp tP] (i, (p, q, ss), ())) [] K =
  K (.bool (inR i 0 (IntKind.wrap IntKind.i64 (p - 1)))) [] := by kernel_rfl
noncomputable def s_impl_Step_ok_1 : Sm := semG [.cell tI, .refp tP] (fun x => match x with | (i, (p, q, ss), _) => decide (1 ≤ p)) fun x => match x with | (i, (p, q, ss), _) => .bool (inR i 0 (p - 1))
theorem ok_impl_Step_ok_1 : FnOk Tryd.prog 134 s_impl_Step_ok_1 := fnOk_typedG (fnOk_runC (C := c_impl_Step_ok_1) rfl mixed (.cons ok_impl_in .nil) .nil .nil Tryd.func134 (by kernel_rfl)) fun (x : ((Int) × ((Int) × (Int) × (List StepD)) × Unit)) wf hg K h => by
  obtain ⟨i, ⟨p, q, ss⟩, ⟨⟩⟩ := x
  replace hg : (decide (1 ≤ p)) = true := hg
  replace h : K (.bool (inR i 0 (p - 1))) [] := h
  rw [w_impl_Step_ok_1 i p q ss K]
  have hg := of_decide_eq_true hg
  have w2 : p ≤ 9223372036854775807 := wf.2.1.1.2
  rw [i64_of (n := p - 1) (by omega) (by omega)]
  exact h

/-! (*impl.Step).ok$2 -/
noncomputable def c_impl_Step_ok_2 : Ctx := mkC Tryd.prog tyT [(72, s_impl_in)] [] [] 11 (fun _ => none) 0
theorem w_impl_Step_ok_2 (i : Int) (p q : Int) (ss : List StepD) (K : V → Heap → Prop) : wpFn c_impl_Step_ok_2 Tryd.f135 (encAs [.cell tI, .refp tP] (i, (p, q, ss), ())) [] K =
  K (.bool (inR i 0 (IntKind.wrap IntKind.i64 (q - 1)))) [] := by kernel_rfl
noncomputable def s_impl_Step_ok_2 : Sm := semG [.cell tI, .refp tP] (fun x => match x with | (i, (p, q, ss), _) => decide (1 ≤ q)) fun x => match x with | (i, (p, q, ss), _) => .bool (inR i 0 (q - 1))
theorem ok_impl_Step_ok_2 : FnOk Tryd.prog 135 s_impl_Step_ok_2 := fnOk_typedG (fnOk_runC (C := c_impl_Step_ok_2) rfl mixed (.cons ok_impl_in .nil) .nil .nil Tryd.func135 (by kernel_rfl)) fun (x : ((Int) × ((Int) × (Int) × (List StepD)) × Unit)) wf hg K h => by
  obtain ⟨i, ⟨p, q, ss⟩, ⟨⟩⟩ := x
  replace hg : (decide (1 ≤ q)) = true := hg
  replace h : K (.bool (inR i 0 (q - 1))) [] := h
  rw [w_impl_Step_ok_2 i p q ss K]
  have hg := of_decide_eq_true hg
  have w2 : q ≤ 9223372036854775807 := wf.2.1.2.1.2
  rw [i64_of (n := q - 1) (by omega) (by omega)]
  exact h

/-! (*impl.Step).ok -/
noncomputable def c_impl_Step_ok : Ctx := mkC Tryd.prog tyT [(125, s_impl_ruleOf), (96, s_impl_numbersOk), (72, s_impl_in), (136, s_impl_points), (134, s_impl_Step_ok_1), (135, s_impl_Step_ok_2)] [] [] 195 (fun _ => none) 0
theorem w_impl_Step_ok (sk to a b k na nb : Int) (xs : List Nat) (p q : Int) (ss : List StepD) (K : V → Heap → Prop) : wpFn c_impl_Step_ok Tryd.f107 (encAs [.ref tSt, .ref tP] ((sk, to, a, b, k, na, nb, xs), (p, q, ss), ())) [] K =
  cond (!isK k)
    (K (.bool false) [])
    (cond (!numsB k xs)
      (K (.bool false) [])
      (cond (na != 0)
        (K (.bool false) [])
        (cond (nb != 0)
          (cond (kindA k)
            (cond (!inR nb 0 2)
              (K (.bool false) [])
              (cond (sk == 0)
                (cond (inR k 9 14)
                  (cond (to != 0)
                    (cond (decide (1 ≤ p))
                      (cond (inR to 0 (p - 1))
                        (cond (decide (1 ≤ p))
                          (cond (inR a 0 (p - 1))
                            (K (.bool (b == 0)) [])
                            (K (.bool false) []))
                          (False))
                        (K (.bool false) []))
                      (False))
                    (K (.bool false) []))
                  (K (.bool false) []))
                (cond (sk == 1)
                  (cond (kindC k == 0)
                    (cond (decide (1 ≤ q))
                      (cond (inR to 0 (q - 1))
                        (cond (decide (1 ≤ p))
                          (cond (inR a 0 (p - 1))
                            (K (.bool (b == 0)) [])
                            (K (.bool false) []))
                          (False))
                        (K (.bool false) []))
                      (False))
                    (K (.bool false) []))
                  (cond (sk == 2)
                    (cond (decide (kindC k > 0))
                      (cond (!inR k 9 14)
                        (cond (decide (1 ≤ q))
                          (cond (inR to 0 (q - 1))
                            (cond (decide (1 ≤ q))
                              (cond (inR a 0 (q - 1))
                                (cond (b == 0)
                                  (K (.bool true) [])
                                  (cond (kindC k == 2)
                                    (cond (decide (1 ≤ q))
                                      (K (.bool (inR b 0 (q - 1))) [])
                                      (False))
                                    (K (.bool false) [])))
                                (K (.bool false) []))
                              (False))
                            (K (.bool false) []))
                          (False))
                        (cond (k == 10)
                          (cond (decide (1 ≤ q))
                            (cond (inR to 0 (q - 1))
                              (cond (decide (1 ≤ q))
                                (cond (inR a 0 (q - 1))
                                  (cond (b == 0)
                                    (K (.bool true) [])
                                    (cond (kindC k == 2)
                                      (cond (decide (1 ≤ q))
                                        (K (.bool (inR b 0 (q - 1))) [])
                                        (False))
                                      (K (.bool false) [])))
                                  (K (.bool false) []))
                                (False))
                              (K (.bool false) []))
                            (False))
                          (K (.bool false) [])))
                      (K (.bool false) []))
                    (K (.bool false) [])))))
            (K (.bool false) []))
          (cond (sk == 0)
            (cond (inR k 9 14)
              (cond (to != 0)
                (cond (decide (1 ≤ p))
                  (cond (inR to 0 (p - 1))
                    (cond (decide (1 ≤ p))
                      (cond (inR a 0 (p - 1))
                        (K (.bool (b == 0)) [])
                        (K (.bool false) []))
                      (False))
                    (K (.bool false) []))
                  (False))
                (K (.bool false) []))
              (K (.bool false) []))
            (cond (sk == 1)
              (cond (kindC k == 0)
                (cond (decide (1 ≤ q))
                  (cond (inR to 0 (q - 1))
                    (cond (decide (1 ≤ p))
                      (cond (inR a 0 (p - 1))
                        (K (.bool (b == 0)) [])
                        (K (.bool false) []))
                      (False))
                    (K (.bool false) []))
                  (False))
                (K (.bool false) []))
              (cond (sk == 2)
                (cond (decide (kindC k > 0))
                  (cond (!inR k 9 14)
                    (cond (decide (1 ≤ q))
                      (cond (inR to 0 (q - 1))
                        (cond (decide (1 ≤ q))
                          (cond (inR a 0 (q - 1))
                            (cond (b == 0)
                              (K (.bool true) [])
                              (cond (kindC k == 2)
                                (cond (decide (1 ≤ q))
                                  (K (.bool (inR b 0 (q - 1))) [])
                                  (False))
                                (K (.bool false) [])))
                            (K (.bool false) []))
                          (False))
                        (K (.bool false) []))
                      (False))
                    (cond (k == 10)
                      (cond (decide (1 ≤ q))
                        (cond (inR to 0 (q - 1))
                          (cond (decide (1 ≤ q))
                            (cond (inR a 0 (q - 1))
                              (cond (b == 0)
                                (K (.bool true) [])
                                (cond (kindC k == 2)
                                  (cond (decide (1 ≤ q))
                                    (K (.bool (inR b 0 (q - 1))) [])
                                    (False))
                                  (K (.bool false) [])))
                              (K (.bool false) []))
                            (False))
                          (K (.bool false) []))
                        (False))
                      (K (.bool false) [])))
                  (K (.bool false) []))
                (K (.bool false) []))))))) := by kernel_rfl
noncomputable def s_impl_Step_ok : Sm := semG [.ref tSt, .ref tP] (fun x => match x with | ((sk, to, a, b, k, na, nb, xs), (p, q, ss), _) => decide (1 ≤ p) && decide (1 ≤ q)) fun x => match x with | ((sk, to, a, b, k, na, nb, xs), (p, q, ss), _) => .bool (stepB p q (sk, to, a, b, k, na, nb, xs))
theorem ok_impl_Step_ok : FnOk Tryd.prog 107 s_impl_Step_ok := fnOk_typedG (fnOk_runC (C := c_impl_Step_ok) rfl mixed (.cons ok_impl_ruleOf (.cons ok_impl_numbersOk (.cons ok_impl_in (.cons ok_impl_points (.cons ok_impl_Step_ok_1 (.cons ok_impl_Step_ok_2 .nil)))))) .nil .nil Tryd.func107 (by kernel_rfl)) fun (x : (((Int) × (Int) × (Int) × (Int) × (Int) × (Int) × (Int) × (List Nat)) × ((Int) × (Int) × (List StepD)) × Unit)) wf hg K h => by
  obtain ⟨⟨sk, to, a, b, k, na, nb, xs⟩, ⟨p, q, ss⟩, ⟨⟩⟩ := x
  replace hg : (decide (1 ≤ p) && decide (1 ≤ q)) = true := hg
  replace h : K (.bool (stepB p q (sk, to, a, b, k, na, nb, xs))) [] := h
  rw [w_impl_Step_ok sk to a b k na nb xs p q ss K]
  simp only [Bool.and_eq_true, decide_eq_true_eq] at hg
  have hto : inR to 1 (p - 1) = (!(to == 0) && inR to 0 (p - 1)) := by
    rw [Bool.eq_iff_iff, Bool.and_eq_true, inR_iff, inR_iff, Bool.not_eq_true', beq_eq_false_iff_ne]
    omega
  cases hN : numsB k xs with
  | false =>
    have : stepB p q (sk, to, a, b, k, na, nb, xs) = false := by unfold stepB stepN; rw [hN]; rfl
    rw [this] at h
    cases isK k <;> exact h
  | true =>
    have hk := numsB_isK hN
    unfold stepB stepN at h
    simp only [hN, kindA_eq hk, hto] at h
    simp only [hk, kindA_eq hk, kindC_0 hk, kindC_pos hk, kindC_2 hk, d_t hg.1, d_t hg.2, cond_true, cond_false, Bool.not_true, bne]
    revert h
    have hq0 : inR 0 0 (q - 1) = true := inR_iff.2 (by omega)
    by_cases hb : b = 0
    · subst hb
      rw [hq0, show ((0 : Int) == 0) = true from rfl]
      cases na == 0 <;> try exact id
      cases nb == 0 <;> cases inR k 12 14 <;> cases inR nb 0 2 <;> try exact id
      all_goals (
      cases sk == 0 with
      | true => cases inR k 9 14 <;> cases to == 0 <;> cases inR to 0 (p - 1) <;> cases inR a 0 (p - 1) <;> exact id
      | false =>
        cases sk == 1 with
        | true => cases inR k 0 4 <;> cases inR to 0 (q - 1) <;> cases inR a 0 (p - 1) <;> exact id
        | false =>
          cases sk == 2 with
          | true => cases inR k 0 4 <;> cases inR k 9 14 <;> cases k == 10 <;> cases inR to 0 (q - 1) <;> cases inR a 0 (q - 1) <;> cases inR k 5 8 <;> first | exact id | (cases inR b 0 (q - 1) <;> exact id)
          | false => exact id
      )
    · rw [beq_eq_false_iff_ne.2 hb]
      cases na == 0 <;> try exact id
      cases nb == 0 <;> cases inR k 12 14 <;> cases inR nb 0 2 <;> try exact id
      all_goals (
      cases sk == 0 with
      | true => cases inR k 9 14 <;> cases to == 0 <;> cases inR to 0 (p - 1) <;> cases inR a 0 (p - 1) <;> exact id
      | false =>
        cases sk == 1 with
        | true => cases inR k 0 4 <;> cases inR to 0 (q - 1) <;> cases inR a 0 (p - 1) <;> exact id
        | false =>
          cases sk == 2 with
          | true => cases inR k 0 4 <;> cases inR k 9 14 <;> cases k == 10 <;> cases inR to 0 (q - 1) <;> cases inR a 0 (q - 1) <;> cases inR k 5 8 <;> first | exact id | (cases inR b 0 (q - 1) <;> exact id)
          | false => exact id
      )

/-! spec.l05Moves -/
noncomputable def c_spec_l05Moves : Ctx := mkC Tryd.prog tyT [(79, s_spec_l00In)] [] [] 5 (fun _ => none) 0
theorem w_spec_l05Moves (k : Int) (K : V → Heap → Prop) : wpFn c_spec_l05Moves Tryd.f133 (encAs [.cell tI] (k, ())) [] K =
  K (.bool (inR k 9 14)) [] := by kernel_rfl
noncomputable def s_spec_l05Moves : Sm := semT [.cell tI] fun x => match x with | (k, _) => .bool (inR k 9 14)
theorem ok_spec_l05Moves : FnOk Tryd.prog 133 s_spec_l05Moves := fnOk_typed (fnOk_runC (C := c_spec_l05Moves) rfl mixed (.cons ok_spec_l00In .nil) .nil .nil Tryd.func133 (by kernel_rfl)) fun (x : ((Int) × Unit)) wf K h => by
  obtain ⟨k, ⟨⟩⟩ := x
  replace h : K (.bool (inR k 9 14)) [] := h
  rw [w_spec_l05Moves k K]
  exact h

/-! spec.l05Node -/
noncomputable def c_spec_l05Node : Ctx := mkC Tryd.prog tyT [(79, s_spec_l00In), (122, s_spec_l02Numbers), (123, s_spec_l02Axis)] [] [] 43 (fun _ => none) 0
theorem w_spec_l05Node (k a b : Int) (xs : List Nat) (K : V → Heap → Prop) : wpFn c_spec_l05Node Tryd.f132 (encAs [.ref tN] ((k, a, b, xs), ())) [] K =
  cond (!inR k 0 16)
    (K (.bool false) [])
    (cond (isK k)
      (cond (!numsB k xs)
        (K (.bool false) [])
        (cond (a != 0)
          (K (.bool false) [])
          (cond (inR k 12 14)
            (K (.bool (inR b 0 2)) [])
            (K (.bool (b == 0)) []))))
      (False)) := by kernel_rfl
noncomputable def s_spec_l05Node : Sm := semT [.ref tN] fun x => match x with | ((k, a, b, xs), _) => .bool (stepN (k, a, b, xs))
theorem ok_spec_l05Node : FnOk Tryd.prog 132 s_spec_l05Node := fnOk_typed (fnOk_runC (C := c_spec_l05Node) rfl mixed (.cons ok_spec_l00In (.cons ok_spec_l02Numbers (.cons ok_spec_l02Axis .nil))) .nil .nil Tryd.func132 (by kernel_rfl)) fun (x : (((Int) × (Int) × (Int) × (List Nat)) × Unit)) wf K h => by
  obtain ⟨⟨k, a, b, xs⟩, ⟨⟩⟩ := x
  replace h : K (.bool (stepN (k, a, b, xs))) [] := h
  rw [w_spec_l05Node k a b xs K]
  change cond (!isK k) _ _
  unfold stepN at h
  cases hk : isK k with
  | false =>
    rw [numsB_no hk] at h
    exact h
  | true =>
    simp only [kindA_eq hk] at h
    simp only [Bool.not_true, cond_false, cond_true, bne]
    revert h
    by_cases hb : b = 0
    · subst hb
      rw [show inR 0 0 2 = true from rfl, show ((0 : Int) == 0) = true from rfl]
      cases numsB k xs <;> cases a == 0 <;> cases inR k 12 14 <;> exact id
    · rw [beq_eq_false_iff_ne.2 hb]
      cases numsB k xs <;> cases a == 0 <;> cases inR k 12 14 <;> cases inR b 0 2 <;> exact id

/-! spec.l05Step -/
noncomputable def c_spec_l05Step : Ctx := mkC Tryd.prog tyT [(132, s_spec_l05Node), (133, s_spec_l05Moves), (79, s_spec_l00In), (93, s_spec_l02Leaf), (94, s_spec_l02Two)] [] [] 163 (fun _ => none) 0
theorem w_spec_l05Step (p q : Int) (ss : List StepD) (sk to a b k na nb : Int) (xs : List Nat) (K : V → Heap → Prop) : wpFn c_spec_l05Step Tryd.f104 (encAs [.ref tP, .ref tSt] ((p, q, ss), (sk, to, a, b, k, na, nb, xs), ())) [] K =
  cond (!stepN (k, na, nb, xs))
    (K (.bool false) [])
    (cond (sk == 0)
      (cond (inR k 9 14)
        (cond (inR to 1 (IntKind.wrap IntKind.i64 (p - 1)))
          (cond (inR a 0 (IntKind.wrap IntKind.i64 (p - 1)))
            (K (.bool (b == 0)) [])
            (K (.bool false) []))
          (K (.bool false) []))
        (K (.bool false) []))
      (cond (sk == 1)
        (cond (inR k 0 4)
          (cond (inR to 0 (IntKind.wrap IntKind.i64 (q - 1)))
            (cond (inR a 0 (IntKind.wrap IntKind.i64 (p - 1)))
              (K (.bool (b == 0)) [])
              (K (.bool false) []))
            (K (.bool false) []))
          (K (.bool false) []))
        (cond (sk == 2)
          (cond (inR k 0 4)
            (K (.bool false) [])
            (cond (inR k 9 14)
              (cond (k != 10)
                (K (.bool false) [])
                (cond (!inR to 0 (IntKind.wrap IntKind.i64 (q - 1)))
                  (K (.bool false) [])
                  (cond (!inR a 0 (IntKind.wrap IntKind.i64 (q - 1)))
                    (K (.bool false) [])
                    (cond (inR k 5 8)
                      (K (.bool (inR b 0 (IntKind.wrap IntKind.i64 (q - 1)))) [])
                      (K (.bool (b == 0)) [])))))
              (cond (!inR to 0 (IntKind.wrap IntKind.i64 (q - 1)))
                (K (.bool false) [])
                (cond (!inR a 0 (IntKind.wrap IntKind.i64 (q - 1)))
                  (K (.bool false) [])
                  (cond (inR k 5 8)
                    (K (.bool (inR b 0 (IntKind.wrap IntKind.i64 (q - 1)))) [])
                    (K (.bool (b == 0)) []))))))
          (K (.bool false) [])))) := by kernel_rfl
noncomputable def s_spec_l05Step : Sm := semG [.ref tP, .ref tSt] (fun x => match x with | ((p, q, ss), (sk, to, a, b, k, na, nb, xs), _) => decide (1 ≤ p) && decide (1 ≤ q)) fun x => match x with | ((p, q, ss), (sk, to, a, b, k, na, nb, xs), _) => .bool (stepB p q (sk, to, a, b, k, na, nb, xs))
theorem ok_spec_l05Step : FnOk Tryd.prog 104 s_spec_l05Step := fnOk_typedG (fnOk_runC (C := c_spec_l05Step) rfl mixed (.cons ok_spec_l05Node (.cons ok_spec_l05Moves (.cons ok_spec_l00In (.cons ok_spec_l02Leaf (.cons ok_spec_l02Two .nil))))) .nil .nil Tryd.func104 (by kernel_rfl)) fun (x : (((Int) × (Int) × (List StepD)) × ((Int) × (Int) × (Int) × (Int) × (Int) × (Int) × (Int) × (List Nat)) × Unit)) wf hg K h => by
  obtain ⟨⟨p, q, ss⟩, ⟨sk, to, a, b, k, na, nb, xs⟩, ⟨⟩⟩ := x
  replace hg : (decide (1 ≤ p) && decide (1 ≤ q)) = true := hg
  replace h : K (.bool (stepB p q (sk, to, a, b, k, na, nb, xs))) [] := h
  rw [w_spec_l05Step p q ss sk to a b k na nb xs K]
  simp only [Bool.and_eq_true, decide_eq_true_eq] at hg
  have wp : p ≤ 9223372036854775807 := wf.1.1.2
  have wq : q ≤ 9223372036854775807 := wf.1.2.1.2
  rw [i64_of (n := p - 1) (by omega) (by omega), i64_of (n := q - 1) (by omega) (by omega)]
  unfold stepB at h
  simp only [bne]
  revert h
  simp only
  cases stepN (k, na, nb, xs) with
  | false => exact id
  | true =>
    simp only [Bool.true_and, Bool.not_true, cond_false]
    cases sk == 0 with
    | true => cases inR k 9 14 <;> cases inR to 1 (p - 1) <;> cases inR a 0 (p - 1) <;> exact id
    | false =>
      cases sk == 1 with
      | true => cases inR k 0 4 <;> cases inR to 0 (q - 1) <;> cases inR a 0 (p - 1) <;> exact id
      | false =>
        cases sk == 2 with
        | true => cases inR k 0 4 <;> cases inR k 9 14 <;> cases k == 10 <;> cases inR to 0 (q - 1) <;> cases inR a 0 (q - 1) <;> cases inR k 5 8 <;> exact id
        | false => exact id

end Go.Proofs.YtobdbgdgingjjaaDoor
