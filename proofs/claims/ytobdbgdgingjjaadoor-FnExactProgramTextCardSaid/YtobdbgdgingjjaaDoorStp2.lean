/- Texts of programs: when they are valid. -/
import Derived.Test.YtobdbgdgingjjaaDoorStp
set_option linter.unusedVariables false
set_option linter.unusedSimpArgs false
set_option maxRecDepth 100000
namespace Go.Proofs.YtobdbgdgingjjaaDoor
open Go.Ev

/-! impl.ValidProgram -/
noncomputable def a_impl_ValidProgram : Nat → Option Ann := fun n => bif Nat.beq n 4 then some ⟨[1,24,25],1,false⟩ else none
noncomputable def c_impl_ValidProgram : Ctx := mkC Tryd.prog tyT [(106, s_impl_registersOk), (72, s_impl_in), (107, s_impl_Step_ok)] [] [] 51 a_impl_ValidProgram 0
noncomputable def fr_impl_ValidProgram_4 (p q : Int) (ss : List StepD) (n i : Int) : Fr := [(1, .ptr 0 0), (24, .int .i64 n), (25, .int .i64 i)]
noncomputable def hp_impl_ValidProgram_4 (p q : Int) (ss : List StepD) (n i : Int) : Heap := [.box [.int .i64 p, .int .i64 q, .vec tSt ss]]
theorem r_impl_ValidProgram_4 (p q : Int) (ss : List StepD) (n i : Int) (Kn : Fr → Heap → Prop) (K : V → Heap → Prop) : round c_impl_ValidProgram ⟨[1,24,25],1,false⟩ (lb c_impl_ValidProgram 4 Tryd.f69) (fr_impl_ValidProgram_4 p q ss n i) (hp_impl_ValidProgram_4 p q ss n i) Kn (lk c_impl_ValidProgram 4 Tryd.f69 [] K) =
  cond (decide (i < n))
    (cond (decide (0 ≤ i))
      ((match ss[Int.toNat i]? with
        | some y0 => cond (decide (1 ≤ p) && decide (1 ≤ q))
          (cond (!stepB p q y0)
            (K (.bool false) [])
            (Kn [(1, (.ptr 0 0)), (24, (.int .i64 (n))), (25, (.int .i64 (IntKind.wrap IntKind.i64 (i + 1))))] [(.box [(.int .i64 (p)), (.int .i64 (q)), (.vec (.pair (.int .i64) (.pair (.int .i64) (.pair (.int .i64) (.pair (.int .i64) (.pair (.int .i64) (.pair (.int .i64) (.pair (.int .i64) (.slice (.float .f32))))))))) (ss))])]))
          (False)
        | none => False))
      (False))
    (cond (decide (0 ≤ IntKind.wrap IntKind.i64 ((↑(List.length ss) : Int) - 1)))
      ((match ss[Int.toNat (IntKind.wrap IntKind.i64 ((↑(List.length ss) : Int) - 1))]? with
        | some y1 => cond (Prod.fst (Prod.snd y1) == 0)
          (K (.bool (Prod.fst y1 != 0)) [])
          (K (.bool false) [])
        | none => False))
      (False)) := by kernel_rfl
theorem w_impl_ValidProgram (p q : Int) (ss : List StepD) (K : V → Heap → Prop) : wpFn c_impl_ValidProgram Tryd.f69 (encAs [.agg tP] ((p, q, ss), ())) [] K =
  cond (!inR p 1 18)
    (K (.bool false) [])
    (cond (!inR q 1 18)
      (K (.bool false) [])
      (cond (!inR (↑(List.length ss) : Int) 1 40)
        (K (.bool false) [])
        (LoopE c_impl_ValidProgram ⟨[1, 24, 25], 1, false⟩ (lb c_impl_ValidProgram 4 Tryd.f69) [(1, (.ptr 0 0)), (24, (.int .i64 ((↑(List.length ss) : Int)))), (25, (.int .i64 0))] [(.box [(.int .i64 (p)), (.int .i64 (q)), (.vec (.pair (.int .i64) (.pair (.int .i64) (.pair (.int .i64) (.pair (.int .i64) (.pair (.int .i64) (.pair (.int .i64) (.pair (.int .i64) (.slice (.float .f32))))))))) (ss))])] (lk c_impl_ValidProgram 4 Tryd.f69 [] K)))) := by kernel_rfl
noncomputable def s_impl_ValidProgram : Sm := semT [.agg tP] fun x => match x with | ((p, q, ss), _) => .bool (validP p q ss)
theorem ok_impl_ValidProgram : FnOk Tryd.prog 69 s_impl_ValidProgram := fnOk_typed (fnOk_runC (C := c_impl_ValidProgram) rfl mixed (.cons ok_impl_registersOk (.cons ok_impl_in (.cons ok_impl_Step_ok .nil))) .nil .nil Tryd.func69 (by kernel_rfl)) fun (x : (((Int) × (Int) × (List StepD)) × Unit)) wf K h => by
  obtain ⟨⟨p, q, ss⟩, ⟨⟩⟩ := x
  replace h : K (.bool (validP p q ss)) [] := h
  rw [w_impl_ValidProgram p q ss K]
  unfold validP at h
  cases hp : inR p 1 18 with
  | false => rw [hp] at h; exact h
  | true =>
  cases hq : inR q 1 18 with
  | false => rw [hp, hq] at h; exact h
  | true =>
  cases hl : inR (ss.length : Int) 1 40 with
  | false => rw [hp, hq, hl] at h; exact h
  | true =>
  rw [hp, hq, hl, Bool.true_and, Bool.true_and, Bool.true_and] at h
  simp only [Bool.not_true, cond_false]
  have hp1 := inR_iff.1 hp
  have hq1 := inR_iff.1 hq
  have hl1 := inR_iff.1 hl
  refine loop_run (σ := Nat) (fun i => fr_impl_ValidProgram_4 p q ss ss.length i) (fun i => hp_impl_ValidProgram_4 p q ss ss.length i) (fun i => i ≤ ss.length ∧ (ss.take i).any (fun x => !stepB p q x) = false) (fun i => ss.length - i) ?_ 0 ⟨Nat.zero_le _, rfl⟩
  intro i hi Kn hk
  rw [r_impl_ValidProgram_4 p q ss ss.length i Kn K]
  by_cases hlt : i < ss.length
  · simp only [d_lt hlt, d_0, cond_true, Int.toNat_natCast, get_lt hlt, d_t hp1.1, d_t hq1.1, Bool.and_self]
    rw [i64_of (n := (i : Int) + 1) (by omega) (by omega)]
    change cond (!stepB p q (ss[i]'hlt)) _ _
    cases e : stepB p q (ss[i]'hlt) with
    | false =>
      rw [List.any_eq_true.2 ⟨_, List.getElem_mem hlt, by rw [e]; rfl⟩] at h
      exact h
    | true => exact hk (i + 1) ⟨hlt, any_snoc (f := fun x => !stepB p q x) hlt hi.2 (by simp only [e]; rfl)⟩ (by omega)
  · have : i = ss.length := by omega
    subst this
    have ha := hi.2
    rw [List.take_length] at ha
    rw [ha] at h
    have hll : ss.length - 1 < ss.length := by omega
    simp only [d_nlt hlt, cond_false]
    rw [i64_of (n := (ss.length : Int) - 1) (by omega) (by omega), d_t (show (0 : Int) ≤ (ss.length : Int) - 1 by omega), show ((ss.length : Int) - 1).toNat = ss.length - 1 by omega, get_lt hll]
    simp only [cond_true]
    unfold lastB at h
    rw [get_lt hll] at h
    simp only [bne]
    have h' : K (.bool (((ss[ss.length - 1]'hll).2.1 == 0) && !((ss[ss.length - 1]'hll).1 == 0))) [] := h
    revert h'
    cases (ss[ss.length - 1]'hll).2.1 == 0 <;> exact id

/-! spec.l05Is -/
noncomputable def a_spec_l05Is : Nat → Option Ann := fun n => bif Nat.beq n 5 then some ⟨[0,3,36,37],0,false⟩ else none
noncomputable def c_spec_l05Is : Ctx := mkC Tryd.prog tyT [(79, s_spec_l00In), (104, s_spec_l05Step)] [] [] 72 a_spec_l05Is 0
noncomputable def fr_spec_l05Is_5 (p q : Int) (ss : List StepD) (m n i : Int) : Fr := [(0, .ref [.int .i64 p, .int .i64 q, .vec tSt ss] 0), (3, .int .i64 m), (36, .int .i64 n), (37, .int .i64 i)]
theorem r_spec_l05Is_5 (p q : Int) (ss : List StepD) (m n i : Int) (Kn : Fr → Heap → Prop) (K : V → Heap → Prop) : round c_spec_l05Is ⟨[0,3,36,37],0,false⟩ (lb c_spec_l05Is 5 Tryd.f66) (fr_spec_l05Is_5 p q ss m n i) [] Kn (lk c_spec_l05Is 5 Tryd.f66 [] K) =
  cond (decide (i < n))
    (cond (decide (0 ≤ i))
      ((match ss[Int.toNat i]? with
        | some y0 => cond (decide (1 ≤ p) && decide (1 ≤ q))
          (cond (!stepB p q y0)
            (K (.bool false) [])
            (Kn [(0, (.ref [(.int .i64 (p)), (.int .i64 (q)), (.vec (.pair (.int .i64) (.pair (.int .i64) (.pair (.int .i64) (.pair (.int .i64) (.pair (.int .i64) (.pair (.int .i64) (.pair (.int .i64) (.slice (.float .f32))))))))) (ss))] 0)), (3, (.int .i64 (m))), (36, (.int .i64 (n))), (37, (.int .i64 (IntKind.wrap IntKind.i64 (i + 1))))] []))
          (False)
        | none => False))
      (False))
    (cond (decide (0 ≤ IntKind.wrap IntKind.i64 (m - 1)))
      ((match ss[Int.toNat (IntKind.wrap IntKind.i64 (m - 1))]? with
        | some y1 => cond (Prod.fst (Prod.snd y1) == 0)
          (cond (decide (0 ≤ IntKind.wrap IntKind.i64 (m - 1)))
            ((match ss[Int.toNat (IntKind.wrap IntKind.i64 (m - 1))]? with
              | some y2 => K (.bool (Prod.fst y2 != 0)) []
              | none => False))
            (False))
          (K (.bool false) [])
        | none => False))
      (False)) := by kernel_rfl
theorem w_spec_l05Is (p q : Int) (ss : List StepD) (K : V → Heap → Prop) : wpFn c_spec_l05Is Tryd.f66 (encAs [.ref tP] ((p, q, ss), ())) [] K =
  cond (!inR p 1 18)
    (K (.bool false) [])
    (cond (!inR q 1 18)
      (K (.bool false) [])
      (cond (decide ((↑(List.length ss) : Int) < 1))
        (K (.bool false) [])
        (cond (decide ((↑(List.length ss) : Int) > 40))
          (K (.bool false) [])
          (LoopE c_spec_l05Is ⟨[0, 3, 36, 37], 0, false⟩ (lb c_spec_l05Is 5 Tryd.f66) [(0, (.ref [(.int .i64 (p)), (.int .i64 (q)), (.vec (.pair (.int .i64) (.pair (.int .i64) (.pair (.int .i64) (.pair (.int .i64) (.pair (.int .i64) (.pair (.int .i64) (.pair (.int .i64) (.slice (.float .f32))))))))) (ss))] 0)), (3, (.int .i64 ((↑(List.length ss) : Int)))), (36, (.int .i64 ((↑(List.length ss) : Int)))), (37, (.int .i64 0))] [] (lk c_spec_l05Is 5 Tryd.f66 [] K))))) := by kernel_rfl
noncomputable def s_spec_l05Is : Sm := semT [.ref tP] fun x => match x with | ((p, q, ss), _) => .bool (validP p q ss)
theorem ok_spec_l05Is : FnOk Tryd.prog 66 s_spec_l05Is := fnOk_typed (fnOk_runC (C := c_spec_l05Is) rfl mixed (.cons ok_spec_l00In (.cons ok_spec_l05Step .nil)) .nil .nil Tryd.func66 (by kernel_rfl)) fun (x : (((Int) × (Int) × (List StepD)) × Unit)) wf K h => by
  obtain ⟨⟨p, q, ss⟩, ⟨⟩⟩ := x
  replace h : K (.bool (validP p q ss)) [] := h
  rw [w_spec_l05Is p q ss K]
  unfold validP at h
  cases hp : inR p 1 18 with
  | false => rw [hp] at h; exact h
  | true =>
  cases hq : inR q 1 18 with
  | false => rw [hp, hq] at h; exact h
  | true =>
  rw [hp, hq, Bool.true_and, Bool.true_and] at h
  simp only [Bool.not_true, cond_false]
  have hp1 := inR_iff.1 hp
  have hq1 := inR_iff.1 hq
  by_cases h1 : (ss.length : Int) < 1
  · rw [d_t h1]
    rw [show inR (ss.length : Int) 1 40 = false from by cases e : inR (ss.length : Int) 1 40 with | false => rfl | true => have := inR_iff.1 e; omega] at h
    exact h
  · by_cases h40 : (ss.length : Int) > 40
    · rw [d_f h1, d_t h40]
      rw [show inR (ss.length : Int) 1 40 = false from by cases e : inR (ss.length : Int) 1 40 with | false => rfl | true => have := inR_iff.1 e; omega] at h
      exact h
    · rw [d_f h1, d_f h40]
      rw [show inR (ss.length : Int) 1 40 = true from inR_iff.2 (by omega), Bool.true_and] at h
      simp only [cond_false]
      refine loop_run (σ := Nat) (fun i => fr_spec_l05Is_5 p q ss ss.length ss.length i) (fun i => []) (fun i => i ≤ ss.length ∧ (ss.take i).any (fun x => !stepB p q x) = false) (fun i => ss.length - i) ?_ 0 ⟨Nat.zero_le _, rfl⟩
      intro i hi Kn hk
      rw [r_spec_l05Is_5 p q ss ss.length ss.length i Kn K]
      by_cases hlt : i < ss.length
      · simp only [d_lt hlt, d_0, cond_true, Int.toNat_natCast, get_lt hlt, d_t hp1.1, d_t hq1.1, Bool.and_self]
        rw [i64_of (n := (i : Int) + 1) (by omega) (by omega)]
        change cond (!stepB p q (ss[i]'hlt)) _ _
        cases e : stepB p q (ss[i]'hlt) with
        | false =>
          rw [List.any_eq_true.2 ⟨_, List.getElem_mem hlt, by rw [e]; rfl⟩] at h
          exact h
        | true => exact hk (i + 1) ⟨hlt, any_snoc (f := fun x => !stepB p q x) hlt hi.2 (by simp only [e]; rfl)⟩ (by omega)
      · have : i = ss.length := by omega
        subst this
        have ha := hi.2
        rw [List.take_length] at ha
        rw [ha] at h
        have hll : ss.length - 1 < ss.length := by omega
        simp only [d_nlt hlt, cond_false]
        rw [i64_of (n := (ss.length : Int) - 1) (by omega) (by omega), d_t (show (0 : Int) ≤ (ss.length : Int) - 1 by omega), show ((ss.length : Int) - 1).toNat = ss.length - 1 by omega, get_lt hll]
        simp only [cond_true]
        unfold lastB at h
        rw [get_lt hll] at h
        simp only [bne]
        have h' : K (.bool (((ss[ss.length - 1]'hll).2.1 == 0) && !((ss[ss.length - 1]'hll).1 == 0))) [] := h
        revert h'
        cases (ss[ss.length - 1]'hll).2.1 == 0 <;> exact id

end Go.Proofs.YtobdbgdgingjjaaDoor
