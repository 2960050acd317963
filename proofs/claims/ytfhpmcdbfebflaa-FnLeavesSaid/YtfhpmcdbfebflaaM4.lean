/- Merged texts: Shape Shapes ShP ShQ ShW FlA FlB FlC. -/
import Derived.Test.YtfhpmcdbfebflaaM3
import Ieee.Arith
/- Shapes: when they are valid. -/
set_option linter.unusedVariables false
set_option linter.unusedSimpArgs false
set_option maxRecDepth 100000
namespace Go.Proofs.Ytfhpmcdbfebflaa
open Go.Ev
abbrev tN : Ty := .pair tI (.pair tI (.pair tI (.slice tF)))
abbrev NodeD := Int × Int × Int × List Nat
abbrev tR : Ty := .pair tI (.pair tI (.pair .bool tI))

/-! plain -/
--B inR Int → Int → Int → Bool
def inR (n lo hi : Int) : Bool := decide (n ≥ lo) && decide (n ≤ hi)
theorem inR_iff {n lo hi : Int} : inR n lo hi = true ↔ lo ≤ n ∧ n ≤ hi := by simp [inR]
def kindL : List (Int × Int × Bool × Int) := [(1, 0, false, 1), (3, 0, false, 1), (2, 0, false, 1), (2, 0, false, 1), (4, 0, false, 0), (0, 2, false, 0), (0, 2, false, 0), (0, 2, false, 0), (1, 2, false, 2), (3, 1, false, 0), (1, 1, false, 2), (3, 1, false, 2), (1, 1, true, 0), (0, 1, true, 0), (1, 1, true, 2), (1, 1, false, 0), (1, 1, false, 1)]
def isK (k : Int) : Bool := inR k 0 16
--B kindN Int → Int
--B kindC Int → Int
--B kindA Int → Bool
--B kindS Int → Int
def kindV (k : Int) : Int × Int × Bool × Int := bif isK k then (kindL[k.toNat]?).getD (0, 0, false, 0) else (0, 0, false, 0)
def kindN (k : Int) : Int := (kindV k).1
def kindC (k : Int) : Int := (kindV k).2.1
def kindA (k : Int) : Bool := (kindV k).2.2.1
def kindS (k : Int) : Int := (kindV k).2.2.2
theorem kinds {k : Int} (h : isK k = true) : k = 0 ∨ k = 1 ∨ k = 2 ∨ k = 3 ∨ k = 4 ∨ k = 5 ∨ k = 6 ∨ k = 7 ∨ k = 8 ∨ k = 9 ∨ k = 10 ∨ k = 11 ∨ k = 12 ∨ k = 13 ∨ k = 14 ∨ k = 15 ∨ k = 16 := by
  have := inR_iff.1 h
  omega
theorem kindV_no {k : Int} (h : isK k = false) : kindV k = (0, 0, false, 0) := by unfold kindV; rw [h]; rfl
theorem isK_ne {k : Int} (h : isK k = false) {j : Int} (hj : 0 ≤ j ∧ j ≤ 16) : (k == j) = false := by
  refine beq_eq_false_iff_ne.2 fun e => ?_
  subst e
  rw [show isK k = true from inR_iff.2 hj] at h
  cases h

def finN (x : Nat) : Bool := feq FloatKind.f32 (fsub FloatKind.f32 x x) 0
def sgnB (s : Int) (x : Nat) : Bool := (s == 1 && flt FloatKind.f32 x 0) || (s == 2 && fle FloatKind.f32 x 0)
--B numsB Int → List Nat → Bool
def numsB (k : Int) (xs : List Nat) : Bool := isK k && ((xs.length : Int) == kindN k && (!xs.any (fun x => !finN x) && !xs.any (fun x => sgnB (kindS k) x)))
--B axB Int → Int → Int → Bool
def axB (k a b : Int) : Bool := (decide (kindC k > 0) || a == 0) && (kindC k == 2 || (b == 0 || (kindA k && inR b 0 2)))
theorem kindC_range (k : Int) : 0 ≤ kindC k ∧ kindC k ≤ 2 := by
  cases hk : isK k with
  | true => rcases kinds hk with e | e | e | e | e | e | e | e | e | e | e | e | e | e | e | e | e <;> subst e <;> decide
  | false => simp only [kindC, kindV_no hk]; decide
--B kids Int → Int → Int → List Int
def kids (k a b : Int) : List Int := [a, b].take (kindC k).toNat

/-! plain: uses of nodes -/
abbrev kidsN (n : NodeD) : List Int := kids n.1 n.2.1 n.2.2.1
--B nodeB Int → NodeD → Bool
def nodeB (i : Int) (n : NodeD) : Bool := numsB n.1 n.2.2.2 && (axB n.1 n.2.1 n.2.2.1 && (kidsN n).all (fun c => inR c 0 (i - 1)))
def inc1 (u : List Int) (c : Int) : List Int := u.set c.toNat (((u[c.toNat]?).getD 0) + 1)
def incs (u cs : List Int) : List Int := cs.foldl inc1 u
def usesOf (ns : List NodeD) (u : List Int) : List Int := ns.foldl (fun u n => incs u (kidsN n)) u
def nodesB (ns : List NodeD) : Bool := (List.range ns.length).all fun i => match ns[i]? with | some n => nodeB i n | none => true
def usesAt (ns : List NodeD) (i : Nat) : List Int := usesOf (ns.take i) (List.replicate ns.length 0)
--B validS List NodeD → Bool
def validS (ns : List NodeD) : Bool := inR ns.length 1 16 && (nodesB ns && ((usesAt ns ns.length).take (ns.length - 1)).all (fun x => x == 1))
def OkUp (ns : List NodeD) (i : Nat) : Prop := ∀ (j : Nat) (n : NodeD), j < i → ns[j]? = some n → nodeB j n = true
theorem okUp_all {ns : List NodeD} (h : OkUp ns ns.length) : nodesB ns = true := by
  refine List.all_eq_true.2 fun j hj => ?_
  cases e : ns[j]? with
  | none => rfl
  | some n => exact h j n (lt_of_get e) e
theorem valid_no {ns : List NodeD} {i : Nat} (hi : i < ns.length) (h : nodeB i (ns[i]'hi) = false) : validS ns = false := by
  have : nodesB ns = false := by
    refine List.all_eq_false.2 ⟨i, by simpa using hi, ?_⟩
    rw [get_lt hi]
    simp [h]
  unfold validS
  rw [this, Bool.false_and, Bool.and_false]
theorem okUp_succ {ns : List NodeD} {i : Nat} (hi : i < ns.length) (h : OkUp ns i) (hn : nodeB i (ns[i]'hi) = true) : OkUp ns (i + 1) := by
  intro j n hj e
  by_cases h' : j < i
  · exact h j n h' e
  · have : j = i := by omega
    subst this
    rw [get_lt hi] at e
    cases e
    exact hn
theorem usesAt_succ {ns : List NodeD} {i : Nat} (hi : i < ns.length) : usesAt ns (i + 1) = incs (usesAt ns i) (kidsN (ns[i]'hi)) := by
  unfold usesAt usesOf
  rw [take_one hi, List.foldl_append]
  rfl
theorem incs_take (u : List Int) {cs : List Int} {j : Nat} (hj : j < cs.length) : incs u (cs.take (j + 1)) = inc1 (incs u (cs.take j)) (cs[j]'hj) := by
  unfold incs
  rw [take_one hj, List.foldl_append]
  rfl
theorem inc1_facts {u : List Int} {c : Int} {B : Int} {i : Nat} (hc : 0 ≤ c ∧ c < i) (hu : ∀ x ∈ u, 0 ≤ x ∧ x ≤ B) (hB : 0 ≤ B) :
    (inc1 u c).length = u.length ∧ (∀ x ∈ inc1 u c, 0 ≤ x ∧ x ≤ B + 1) ∧ (∀ p, i ≤ p → (inc1 u c)[p]? = u[p]?) := by
  unfold inc1
  refine ⟨List.length_set, fun x hx => ?_, fun p hp => ?_⟩
  · rcases List.mem_or_eq_of_mem_set hx with h | h
    · have := hu x h; omega
    · subst h
      cases e : u[c.toNat]? with
      | none => simp; omega
      | some y => have := hu y (List.mem_of_getElem? e); simp; omega
  · rw [List.getElem?_set_ne (by omega)]
theorem incs_facts {i : Nat} : ∀ (cs : List Int) {u : List Int} {B : Int}, (∀ c ∈ cs, 0 ≤ c ∧ c < i) → (∀ x ∈ u, 0 ≤ x ∧ x ≤ B) → 0 ≤ B →
    (incs u cs).length = u.length ∧ (∀ x ∈ incs u cs, 0 ≤ x ∧ x ≤ B + cs.length) ∧ (∀ p, i ≤ p → (incs u cs)[p]? = u[p]?)
  | [], u, B, _, hu, hB => ⟨rfl, fun x hx => by have := hu x hx; simp; omega, fun _ _ => rfl⟩
  | c :: cs, u, B, hc, hu, hB => by
    obtain ⟨h1, h2, h3⟩ := inc1_facts (hc c (by simp)) hu hB
    obtain ⟨k1, k2, k3⟩ := incs_facts cs (u := inc1 u c) (B := B + 1) (fun c' hc' => hc c' (by simp [hc'])) h2 (by omega)
    refine ⟨k1.trans h1, fun x hx => ?_, fun p hp => (k3 p hp).trans (h3 p hp)⟩
    have := k2 x hx
    rw [List.length_cons]
    omega
theorem nodeB_kids {i : Int} {n : NodeD} (h : nodeB i n = true) : ∀ c ∈ kidsN n, 0 ≤ c ∧ c ≤ i - 1 := by
  unfold nodeB at h
  simp only [Bool.and_eq_true] at h
  intro c hc
  exact inR_iff.1 (List.all_eq_true.1 h.2.2 c hc)
theorem kids_len (n : NodeD) : (kidsN n).length ≤ 2 := by simp only [kidsN, kids, List.length_take, List.length_cons, List.length_nil]; omega
theorem uses_facts {ns : List NodeD} : ∀ (i : Nat), i ≤ ns.length → OkUp ns i →
    (usesAt ns i).length = ns.length ∧ (∀ x ∈ usesAt ns i, 0 ≤ x ∧ x ≤ 2 * (i : Int)) ∧ (∀ p x, i ≤ p + 1 → (usesAt ns i)[p]? = some x → x = 0)
  | 0, _, _ => by
    refine ⟨by simp [usesAt, usesOf], fun x hx => ?_, fun p x _ hx => ?_⟩
    · simp only [usesAt, usesOf, List.take_zero, List.foldl_nil, List.mem_replicate] at hx
      omega
    · simp only [usesAt, usesOf, List.take_zero, List.foldl_nil, List.getElem?_replicate] at hx
      split at hx
      · cases hx; rfl
      · cases hx
  | i + 1, hi, hok => by
    have hlt : i < ns.length := by omega
    obtain ⟨h1, h2, h3⟩ := uses_facts i (by omega) fun j n hj => hok j n (by omega)
    have hn := hok i _ (Nat.lt_succ_self i) (get_lt hlt)
    obtain ⟨k1, k2, k3⟩ := incs_facts (i := i) (kidsN (ns[i]'hlt)) (u := usesAt ns i) (B := 2 * (i : Int)) (fun c hc => by have := nodeB_kids hn c hc; omega) h2 (by omega)
    rw [usesAt_succ hlt]
    refine ⟨k1.trans h1, fun x hx => ?_, fun p x hp hx => ?_⟩
    · have := k2 x hx
      have := kids_len (ns[i]'hlt)
      omega
    · rw [k3 p (by omega)] at hx
      exact h3 p x (by omega) hx
theorem kind_cases {k : Int} (a b : Int) (h : isK k = true) : (inR k 0 4 = true ∧ inR k 5 8 = false ∧ kids k a b = []) ∨ (inR k 0 4 = false ∧ inR k 5 8 = false ∧ kids k a b = [a]) ∨ (inR k 0 4 = false ∧ inR k 5 8 = true ∧ kids k a b = [a, b]) := by
  rcases kinds h with e | e | e | e | e | e | e | e | e | e | e | e | e | e | e | e | e <;> subst e <;> first | exact .inl ⟨rfl, rfl, rfl⟩ | exact .inr (.inl ⟨rfl, rfl, rfl⟩) | exact .inr (.inr ⟨rfl, rfl, rfl⟩)
theorem kind_ax {k : Int} (a b : Int) (h : isK k = true) : (inR k 0 4 = true ∧ kids k a b = [] ∧ axB k a b = (a == 0 && b == 0)) ∨ (inR k 0 4 = false ∧ inR k 5 8 = false ∧ inR k 12 14 = false ∧ kids k a b = [a] ∧ axB k a b = (b == 0)) ∨
    (inR k 0 4 = false ∧ inR k 5 8 = false ∧ inR k 12 14 = true ∧ kids k a b = [a] ∧ axB k a b = inR b 0 2) ∨ (inR k 0 4 = false ∧ inR k 5 8 = true ∧ kids k a b = [a, b] ∧ axB k a b = true) := by
  have hb : (b == 0 || inR b 0 2) = inR b 0 2 := by
    by_cases e : b = 0
    · subst e; rfl
    · rw [beq_eq_false_iff_ne.2 e, Bool.false_or]
  have leaf : ∀ k, kindC k = 0 → kindA k = false → axB k a b = (a == 0 && b == 0) := by
    intro k h1 h2
    unfold axB
    rw [h1, h2]
    cases a == 0 <;> cases b == 0 <;> rfl
  have one : ∀ k, kindC k = 1 → kindA k = false → axB k a b = (b == 0) := by
    intro k h1 h2
    unfold axB
    rw [h1, h2]
    cases a == 0 <;> cases b == 0 <;> rfl
  have ax : ∀ k, kindC k = 1 → kindA k = true → axB k a b = inR b 0 2 := by
    intro k h1 h2
    unfold axB
    rw [h1, h2, ← hb]
    cases a == 0 <;> cases b == 0 <;> cases inR b 0 2 <;> rfl
  have two : ∀ k, kindC k = 2 → axB k a b = true := by
    intro k h1
    unfold axB
    rw [h1]
    cases a == 0 <;> rfl
  rcases kinds h with e | e | e | e | e | e | e | e | e | e | e | e | e | e | e | e | e <;> subst e <;> first
    | exact .inl ⟨rfl, rfl, leaf _ rfl rfl⟩
    | exact .inr (.inl ⟨rfl, rfl, rfl, rfl, one _ rfl rfl⟩)
    | exact .inr (.inr (.inl ⟨rfl, rfl, rfl, rfl, ax _ rfl rfl⟩))
    | exact .inr (.inr (.inr ⟨rfl, rfl, rfl, two _ rfl⟩))
theorem nodeB_isK {i : Int} {n : NodeD} (h : nodeB i n = true) : isK n.1 = true := by
  unfold nodeB numsB at h
  simp only [Bool.and_eq_true] at h
  exact h.1.1
theorem all_one (us : List Int) : (!us.any fun x => x != 1) = us.all fun x => x == 1 := by
  induction us with
  | nil => rfl
  | cons x us ih =>
    simp only [List.any_cons, List.all_cons, Bool.not_or, bne, Bool.not_not] at ih ⊢
    rw [ih]
theorem valid_last {ns : List NodeD} (h : inR ns.length 1 16 = true) (hok : OkUp ns ns.length) : validS ns = ((usesAt ns ns.length).take (ns.length - 1)).all (fun x => x == 1) := by
  unfold validS
  rw [h, okUp_all hok, Bool.true_and, Bool.true_and]

/-! impl.in -/
noncomputable def c_impl_in : Ctx := mkC Try.prog tyT [] [] [] 15 (fun _ => none) 0
theorem w_impl_in (n lo hi : Int) (K : V → Heap → Prop) : wpFn c_impl_in Try.f79 (encAs [.cell tI, .cell tI, .cell tI] (n, lo, hi, ())) [] K =
  cond (decide (n ≥ lo))
    (K (.bool (decide (n ≤ hi))) [])
    (K (.bool false) []) := by kernel_rfl
noncomputable def s_impl_in : Sm := semT [.cell tI, .cell tI, .cell tI] fun x => match x with | (n, lo, hi, _) => .bool (inR n lo hi)
theorem ok_impl_in : FnOk Try.prog 79 s_impl_in := fnOk_typed (fnOk_runC (C := c_impl_in) rfl mixed .nil .nil .nil Try.func79 (by kernel_rfl)) fun (x : ((Int) × (Int) × (Int) × Unit)) wf K h => by
  obtain ⟨n, lo, hi, ⟨⟩⟩ := x
  replace h : K (.bool (inR n lo hi)) [] := h
  rw [w_impl_in n lo hi K]
  revert h
  unfold inR
  cases decide (n ≥ lo) <;> exact id

/-! spec.l00In -/
noncomputable def c_spec_l00In : Ctx := mkC Try.prog tyT [] [] [] 15 (fun _ => none) 0
theorem w_spec_l00In (n lo hi : Int) (K : V → Heap → Prop) : wpFn c_spec_l00In Try.f169 (encAs [.cell tI, .cell tI, .cell tI] (n, lo, hi, ())) [] K =
  cond (decide (n ≥ lo))
    (K (.bool (decide (n ≤ hi))) [])
    (K (.bool false) []) := by kernel_rfl
noncomputable def s_spec_l00In : Sm := semT [.cell tI, .cell tI, .cell tI] fun x => match x with | (n, lo, hi, _) => .bool (inR n lo hi)
theorem ok_spec_l00In : FnOk Try.prog 169 s_spec_l00In := fnOk_typed (fnOk_runC (C := c_spec_l00In) rfl mixed .nil .nil .nil Try.func169 (by kernel_rfl)) fun (x : ((Int) × (Int) × (Int) × Unit)) wf K h => by
  obtain ⟨n, lo, hi, ⟨⟩⟩ := x
  replace h : K (.bool (inR n lo hi)) [] := h
  rw [w_spec_l00In n lo hi K]
  revert h
  unfold inR
  cases decide (n ≥ lo) <;> exact id

/-! impl.ruleOf -/
noncomputable def c_impl_ruleOf : Ctx := mkC Try.prog tyT [] [] [] 51 (fun _ => none) 0
theorem w_impl_ruleOf (k : Int) (K : V → Heap → Prop) : wpFn c_impl_ruleOf Try.f98 (encAs [.cell tI] (k, ())) [] K =
  cond (k == 0)
    (K (.tuple [(.agg [(.int .i64 1), (.int .i64 0), (.bool false), (.int .i64 1)]), (.bool true)]) [])
    (cond (k == 1)
      (K (.tuple [(.agg [(.int .i64 3), (.int .i64 0), (.bool false), (.int .i64 1)]), (.bool true)]) [])
      (cond (k == 2)
        (cond (k == 2)
          (K (.tuple [(.agg [(.int .i64 2), (.int .i64 0), (.bool false), (.int .i64 1)]), (.bool true)]) [])
          (cond (k == 4)
            (K (.tuple [(.agg [(.int .i64 4), (.int .i64 0), (.bool false), (.int .i64 0)]), (.bool true)]) [])
            (cond (k == 5)
              (cond (k == 5)
                (K (.tuple [(.agg [(.int .i64 0), (.int .i64 2), (.bool false), (.int .i64 0)]), (.bool true)]) [])
                (cond (k == 8)
                  (K (.tuple [(.agg [(.int .i64 1), (.int .i64 2), (.bool false), (.int .i64 2)]), (.bool true)]) [])
                  (cond (k == 9)
                    (K (.tuple [(.agg [(.int .i64 3), (.int .i64 1), (.bool false), (.int .i64 0)]), (.bool true)]) [])
                    (cond (k == 10)
                      (K (.tuple [(.agg [(.int .i64 1), (.int .i64 1), (.bool false), (.int .i64 2)]), (.bool true)]) [])
                      (cond (k == 11)
                        (K (.tuple [(.agg [(.int .i64 3), (.int .i64 1), (.bool false), (.int .i64 2)]), (.bool true)]) [])
                        (cond (k == 12)
                          (K (.tuple [(.agg [(.int .i64 1), (.int .i64 1), (.bool true), (.int .i64 0)]), (.bool true)]) [])
                          (cond (k == 13)
                            (K (.tuple [(.agg [(.int .i64 0), (.int .i64 1), (.bool true), (.int .i64 0)]), (.bool true)]) [])
                            (cond (k == 14)
                              (K (.tuple [(.agg [(.int .i64 1), (.int .i64 1), (.bool true), (.int .i64 2)]), (.bool true)]) [])
                              (cond (k == 15)
                                (K (.tuple [(.agg [(.int .i64 1), (.int .i64 1), (.bool false), (.int .i64 0)]), (.bool true)]) [])
                                (cond (k == 16)
                                  (K (.tuple [(.agg [(.int .i64 1), (.int .i64 1), (.bool false), (.int .i64 1)]), (.bool true)]) [])
                                  (K (.tuple [(.agg [(.int .i64 0), (.int .i64 0), (.bool false), (.int .i64 0)]), (.bool false)]) [])))))))))))
              (cond (k == 6)
                (cond (k == 6)
                  (K (.tuple [(.agg [(.int .i64 0), (.int .i64 2), (.bool false), (.int .i64 0)]), (.bool true)]) [])
                  (cond (k == 8)
                    (K (.tuple [(.agg [(.int .i64 1), (.int .i64 2), (.bool false), (.int .i64 2)]), (.bool true)]) [])
                    (cond (k == 9)
                      (K (.tuple [(.agg [(.int .i64 3), (.int .i64 1), (.bool false), (.int .i64 0)]), (.bool true)]) [])
                      (cond (k == 10)
                        (K (.tuple [(.agg [(.int .i64 1), (.int .i64 1), (.bool false), (.int .i64 2)]), (.bool true)]) [])
                        (cond (k == 11)
                          (K (.tuple [(.agg [(.int .i64 3), (.int .i64 1), (.bool false), (.int .i64 2)]), (.bool true)]) [])
                          (cond (k == 12)
                            (K (.tuple [(.agg [(.int .i64 1), (.int .i64 1), (.bool true), (.int .i64 0)]), (.bool true)]) [])
                            (cond (k == 13)
                              (K (.tuple [(.agg [(.int .i64 0), (.int .i64 1), (.bool true), (.int .i64 0)]), (.bool true)]) [])
                              (cond (k == 14)
                                (K (.tuple [(.agg [(.int .i64 1), (.int .i64 1), (.bool true), (.int .i64 2)]), (.bool true)]) [])
                                (cond (k == 15)
                                  (K (.tuple [(.agg [(.int .i64 1), (.int .i64 1), (.bool false), (.int .i64 0)]), (.bool true)]) [])
                                  (cond (k == 16)
                                    (K (.tuple [(.agg [(.int .i64 1), (.int .i64 1), (.bool false), (.int .i64 1)]), (.bool true)]) [])
                                    (K (.tuple [(.agg [(.int .i64 0), (.int .i64 0), (.bool false), (.int .i64 0)]), (.bool false)]) [])))))))))))
                (cond (k == 7)
                  (K (.tuple [(.agg [(.int .i64 0), (.int .i64 2), (.bool false), (.int .i64 0)]), (.bool true)]) [])
                  (cond (k == 8)
                    (K (.tuple [(.agg [(.int .i64 1), (.int .i64 2), (.bool false), (.int .i64 2)]), (.bool true)]) [])
                    (cond (k == 9)
                      (K (.tuple [(.agg [(.int .i64 3), (.int .i64 1), (.bool false), (.int .i64 0)]), (.bool true)]) [])
                      (cond (k == 10)
                        (K (.tuple [(.agg [(.int .i64 1), (.int .i64 1), (.bool false), (.int .i64 2)]), (.bool true)]) [])
                        (cond (k == 11)
                          (K (.tuple [(.agg [(.int .i64 3), (.int .i64 1), (.bool false), (.int .i64 2)]), (.bool true)]) [])
                          (cond (k == 12)
                            (K (.tuple [(.agg [(.int .i64 1), (.int .i64 1), (.bool true), (.int .i64 0)]), (.bool true)]) [])
                            (cond (k == 13)
                              (K (.tuple [(.agg [(.int .i64 0), (.int .i64 1), (.bool true), (.int .i64 0)]), (.bool true)]) [])
                              (cond (k == 14)
                                (K (.tuple [(.agg [(.int .i64 1), (.int .i64 1), (.bool true), (.int .i64 2)]), (.bool true)]) [])
                                (cond (k == 15)
                                  (K (.tuple [(.agg [(.int .i64 1), (.int .i64 1), (.bool false), (.int .i64 0)]), (.bool true)]) [])
                                  (cond (k == 16)
                                    (K (.tuple [(.agg [(.int .i64 1), (.int .i64 1), (.bool false), (.int .i64 1)]), (.bool true)]) [])
                                    (K (.tuple [(.agg [(.int .i64 0), (.int .i64 0), (.bool false), (.int .i64 0)]), (.bool false)]) [])))))))))))))))
        (cond (k == 3)
          (K (.tuple [(.agg [(.int .i64 2), (.int .i64 0), (.bool false), (.int .i64 1)]), (.bool true)]) [])
          (cond (k == 4)
            (K (.tuple [(.agg [(.int .i64 4), (.int .i64 0), (.bool false), (.int .i64 0)]), (.bool true)]) [])
            (cond (k == 5)
              (cond (k == 5)
                (K (.tuple [(.agg [(.int .i64 0), (.int .i64 2), (.bool false), (.int .i64 0)]), (.bool true)]) [])
                (cond (k == 8)
                  (K (.tuple [(.agg [(.int .i64 1), (.int .i64 2), (.bool false), (.int .i64 2)]), (.bool true)]) [])
                  (cond (k == 9)
                    (K (.tuple [(.agg [(.int .i64 3), (.int .i64 1), (.bool false), (.int .i64 0)]), (.bool true)]) [])
                    (cond (k == 10)
                      (K (.tuple [(.agg [(.int .i64 1), (.int .i64 1), (.bool false), (.int .i64 2)]), (.bool true)]) [])
                      (cond (k == 11)
                        (K (.tuple [(.agg [(.int .i64 3), (.int .i64 1), (.bool false), (.int .i64 2)]), (.bool true)]) [])
                        (cond (k == 12)
                          (K (.tuple [(.agg [(.int .i64 1), (.int .i64 1), (.bool true), (.int .i64 0)]), (.bool true)]) [])
                          (cond (k == 13)
                            (K (.tuple [(.agg [(.int .i64 0), (.int .i64 1), (.bool true), (.int .i64 0)]), (.bool true)]) [])
                            (cond (k == 14)
                              (K (.tuple [(.agg [(.int .i64 1), (.int .i64 1), (.bool true), (.int .i64 2)]), (.bool true)]) [])
                              (cond (k == 15)
                                (K (.tuple [(.agg [(.int .i64 1), (.int .i64 1), (.bool false), (.int .i64 0)]), (.bool true)]) [])
                                (cond (k == 16)
                                  (K (.tuple [(.agg [(.int .i64 1), (.int .i64 1), (.bool false), (.int .i64 1)]), (.bool true)]) [])
                                  (K (.tuple [(.agg [(.int .i64 0), (.int .i64 0), (.bool false), (.int .i64 0)]), (.bool false)]) [])))))))))))
              (cond (k == 6)
                (cond (k == 6)
                  (K (.tuple [(.agg [(.int .i64 0), (.int .i64 2), (.bool false), (.int .i64 0)]), (.bool true)]) [])
                  (cond (k == 8)
                    (K (.tuple [(.agg [(.int .i64 1), (.int .i64 2), (.bool false), (.int .i64 2)]), (.bool true)]) [])
                    (cond (k == 9)
                      (K (.tuple [(.agg [(.int .i64 3), (.int .i64 1), (.bool false), (.int .i64 0)]), (.bool true)]) [])
                      (cond (k == 10)
                        (K (.tuple [(.agg [(.int .i64 1), (.int .i64 1), (.bool false), (.int .i64 2)]), (.bool true)]) [])
                        (cond (k == 11)
                          (K (.tuple [(.agg [(.int .i64 3), (.int .i64 1), (.bool false), (.int .i64 2)]), (.bool true)]) [])
                          (cond (k == 12)
                            (K (.tuple [(.agg [(.int .i64 1), (.int .i64 1), (.bool true), (.int .i64 0)]), (.bool true)]) [])
                            (cond (k == 13)
                              (K (.tuple [(.agg [(.int .i64 0), (.int .i64 1), (.bool true), (.int .i64 0)]), (.bool true)]) [])
                              (cond (k == 14)
                                (K (.tuple [(.agg [(.int .i64 1), (.int .i64 1), (.bool true), (.int .i64 2)]), (.bool true)]) [])
                                (cond (k == 15)
                                  (K (.tuple [(.agg [(.int .i64 1), (.int .i64 1), (.bool false), (.int .i64 0)]), (.bool true)]) [])
                                  (cond (k == 16)
                                    (K (.tuple [(.agg [(.int .i64 1), (.int .i64 1), (.bool false), (.int .i64 1)]), (.bool true)]) [])
                                    (K (.tuple [(.agg [(.int .i64 0), (.int .i64 0), (.bool false), (.int .i64 0)]), (.bool false)]) [])))))))))))
                (cond (k == 7)
                  (K (.tuple [(.agg [(.int .i64 0), (.int .i64 2), (.bool false), (.int .i64 0)]), (.bool true)]) [])
                  (cond (k == 8)
                    (K (.tuple [(.agg [(.int .i64 1), (.int .i64 2), (.bool false), (.int .i64 2)]), (.bool true)]) [])
                    (cond (k == 9)
                      (K (.tuple [(.agg [(.int .i64 3), (.int .i64 1), (.bool false), (.int .i64 0)]), (.bool true)]) [])
                      (cond (k == 10)
                        (K (.tuple [(.agg [(.int .i64 1), (.int .i64 1), (.bool false), (.int .i64 2)]), (.bool true)]) [])
                        (cond (k == 11)
                          (K (.tuple [(.agg [(.int .i64 3), (.int .i64 1), (.bool false), (.int .i64 2)]), (.bool true)]) [])
                          (cond (k == 12)
                            (K (.tuple [(.agg [(.int .i64 1), (.int .i64 1), (.bool true), (.int .i64 0)]), (.bool true)]) [])
                            (cond (k == 13)
                              (K (.tuple [(.agg [(.int .i64 0), (.int .i64 1), (.bool true), (.int .i64 0)]), (.bool true)]) [])
                              (cond (k == 14)
                                (K (.tuple [(.agg [(.int .i64 1), (.int .i64 1), (.bool true), (.int .i64 2)]), (.bool true)]) [])
                                (cond (k == 15)
                                  (K (.tuple [(.agg [(.int .i64 1), (.int .i64 1), (.bool false), (.int .i64 0)]), (.bool true)]) [])
                                  (cond (k == 16)
                                    (K (.tuple [(.agg [(.int .i64 1), (.int .i64 1), (.bool false), (.int .i64 1)]), (.bool true)]) [])
                                    (K (.tuple [(.agg [(.int .i64 0), (.int .i64 0), (.bool false), (.int .i64 0)]), (.bool false)]) []))))))))))))))))) := by kernel_rfl
noncomputable def s_impl_ruleOf : Sm := semT [.cell tI] fun x => match x with | (k, _) => .tuple [.agg [.int .i64 (kindN k), .int .i64 (kindC k), .bool (kindA k), .int .i64 (kindS k)], .bool (isK k)]
theorem ok_impl_ruleOf : FnOk Try.prog 98 s_impl_ruleOf := fnOk_typed (fnOk_runC (C := c_impl_ruleOf) rfl mixed .nil .nil .nil Try.func98 (by kernel_rfl)) fun (x : ((Int) × Unit)) wf K h => by
  obtain ⟨k, ⟨⟩⟩ := x
  replace h : K (.tuple [.agg [.int .i64 (kindN k), .int .i64 (kindC k), .bool (kindA k), .int .i64 (kindS k)], .bool (isK k)]) [] := h
  rw [w_impl_ruleOf k K]
  cases hk : isK k with
  | true =>
    rw [hk] at h
    rcases kinds hk with e | e | e | e | e | e | e | e | e | e | e | e | e | e | e | e | e <;> subst e <;> exact h
  | false =>
    rw [hk] at h
    simp only [kindN, kindC, kindA, kindS, kindV_no hk] at h
    simp only [isK_ne hk (j := 0) (by decide), isK_ne hk (j := 1) (by decide), isK_ne hk (j := 2) (by decide), isK_ne hk (j := 3) (by decide), isK_ne hk (j := 4) (by decide), isK_ne hk (j := 5) (by decide), isK_ne hk (j := 6) (by decide), isK_ne hk (j := 7) (by decide), isK_ne hk (j := 8) (by decide), isK_ne hk (j := 9) (by decide), isK_ne hk (j := 10) (by decide), isK_ne hk (j := 11) (by decide), isK_ne hk (j := 12) (by decide), isK_ne hk (j := 13) (by decide), isK_ne hk (j := 14) (by decide), isK_ne hk (j := 15) (by decide), isK_ne hk (j := 16) (by decide), cond_false]
    exact h

/-! impl.IsFinite -/
noncomputable def c_impl_IsFinite : Ctx := mkC Try.prog tyT [] [] [] 7 (fun _ => none) 0
theorem w_impl_IsFinite (x : Nat) (K : V → Heap → Prop) : wpFn c_impl_IsFinite Try.f78 (encAs [.cell tF] (x, ())) [] K =
  K (.bool (feq FloatKind.f32 (fsub FloatKind.f32 x x) 0)) [] := by kernel_rfl
noncomputable def s_impl_IsFinite : Sm := semT [.cell tF] fun x => match x with | (x, _) => .bool (finN x)
theorem ok_impl_IsFinite : FnOk Try.prog 78 s_impl_IsFinite := fnOk_typed (fnOk_runC (C := c_impl_IsFinite) rfl mixed .nil .nil .nil Try.func78 (by kernel_rfl)) fun (x : ((Nat) × Unit)) wf K h => by
  obtain ⟨x, ⟨⟩⟩ := x
  replace h : K (.bool (finN x)) [] := h
  rw [w_impl_IsFinite x K]
  exact h

/-! impl.finite$1 -/
noncomputable def c_impl_finite_1 : Ctx := mkC Try.prog tyT [(78, s_impl_IsFinite)] [] [] 6 (fun _ => none) 0
theorem w_impl_finite_1 (x : Nat) (K : V → Heap → Prop) : wpFn c_impl_finite_1 Try.f157 (encAs [.cell tF] (x, ())) [] K =
  K (.bool (!finN x)) [] := by kernel_rfl
noncomputable def s_impl_finite_1 : Sm := semT [.cell tF] fun x => match x with | (x, _) => .bool (!finN x)
theorem ok_impl_finite_1 : FnOk Try.prog 157 s_impl_finite_1 := fnOk_typed (fnOk_runC (C := c_impl_finite_1) rfl mixed (.cons ok_impl_IsFinite .nil) .nil .nil Try.func157 (by kernel_rfl)) fun (x : ((Nat) × Unit)) wf K h => by
  obtain ⟨x, ⟨⟩⟩ := x
  replace h : K (.bool (!finN x)) [] := h
  rw [w_impl_finite_1 x K]
  exact h

/-! slices.IndexFunc[[]float32,float32] -/
noncomputable def a_slices_IndexFunc__float32_vfin : Nat → Option Ann := fun n => bif Nat.beq n 2 then some ⟨[0,1,7,8],0,false⟩ else none
noncomputable def c_slices_IndexFunc__float32_vfin : Ctx := mkC Try.prog tyT [(157, s_impl_finite_1)] [] [] 19 a_slices_IndexFunc__float32_vfin 0
noncomputable def fr_slices_IndexFunc__float32_vfin_2 (xs : List (Nat)) (n i : Int) : Fr := [(0, .vec (tF) xs), (1, .fn 157 []), (7, .int .i64 n), (8, .int .i64 i)]
theorem r_slices_IndexFunc__float32_vfin_2 (xs : List (Nat)) (n i : Int) (Kn : Fr → Heap → Prop) (K : V → Heap → Prop) : round c_slices_IndexFunc__float32_vfin ⟨[0,1,7,8],0,false⟩ (lb c_slices_IndexFunc__float32_vfin 2 Try.f168) (fr_slices_IndexFunc__float32_vfin_2 xs n i) [] Kn (lk c_slices_IndexFunc__float32_vfin 2 Try.f168 [] K) =
  cond (decide (i < n))
    (cond (decide (0 ≤ i))
      ((match xs[Int.toNat i]? with
        | some y0 => cond (!finN y0)
          (K (.int .i64 (i)) [])
          (Kn [(0, (.vec (.float .f32) (xs))), (1, (.fn 157 [])), (7, (.int .i64 (n))), (8, (.int .i64 (IntKind.wrap IntKind.i64 (i + 1))))] [])
        | none => False))
      (False))
    (K (.int .i64 (-1)) []) := by kernel_rfl
theorem w_slices_IndexFunc__float32_vfin (xs : List (Nat)) (K : V → Heap → Prop) : wpFn c_slices_IndexFunc__float32_vfin Try.f168 (encAs [.cell (.slice (tF)), .fn 157] (xs, (), ())) [] K =
  LoopE c_slices_IndexFunc__float32_vfin ⟨[0, 1, 7, 8], 0, false⟩ (lb c_slices_IndexFunc__float32_vfin 2 Try.f168) [(0, (.vec (.float .f32) (xs))), (1, (.fn 157 [])), (7, (.int .i64 ((↑(List.length xs) : Int)))), (8, (.int .i64 0))] [] (lk c_slices_IndexFunc__float32_vfin 2 Try.f168 [] K) := by kernel_rfl
noncomputable def s_slices_IndexFunc__float32_vfin : Sm := semT [.cell (.slice (tF)), .fn 157] fun x => match x with | (xs, _, _) => .int .i64 (idxF (fun x => !finN x) xs)
theorem ok_slices_IndexFunc__float32_vfin : FnOk Try.prog 168 s_slices_IndexFunc__float32_vfin := fnOk_typed (fnOk_runC (C := c_slices_IndexFunc__float32_vfin) rfl mixed (.cons ok_impl_finite_1 .nil) .nil .nil Try.func168 (by kernel_rfl)) fun (x : ((List (Nat)) × Unit × Unit)) wf K h => by
  obtain ⟨xs, ⟨⟩, ⟨⟩⟩ := x
  replace h : K (.int .i64 (idxF (fun x => !finN x) xs)) [] := h
  rw [w_slices_IndexFunc__float32_vfin xs K]
  obtain ⟨⟨wl, _⟩, _⟩ := wf
  have wl : xs.length ≤ 9223372036854775807 := wl
  refine loop_run (σ := Nat) (fun i => fr_slices_IndexFunc__float32_vfin_2 xs xs.length i) (fun _ => []) (fun i => i ≤ xs.length ∧ (xs.take i).any (fun x => !finN x) = false) (fun i => xs.length - i) ?_ 0 ⟨Nat.zero_le _, rfl⟩
  intro i hi Kn hk
  rw [r_slices_IndexFunc__float32_vfin_2 xs xs.length i Kn K]
  by_cases hlt : i < xs.length
  · simp only [d_lt hlt, d_0, cond_true, Int.toNat_natCast, get_lt hlt]
    cases hp : (fun x => !finN x) (xs[i]'hlt) with
    | true =>
      rw [idxF_hit hlt hi.2 hp] at h
      simp only at hp
      simp only [hp, cond_true]
      exact h
    | false =>
      have hn := any_snoc (f := (fun x => !finN x)) hlt hi.2 hp
      simp only at hp
      simp only [hp, cond_false]
      rw [i64_of (by omega) (by omega)]
      exact hk (i + 1) ⟨hlt, hn⟩ (by omega)
  · simp only [d_nlt hlt, cond_false]
    have : i = xs.length := by omega
    subst this
    have ha := hi.2
    rw [List.take_length] at ha
    rw [idxF_none ha] at h
    exact h

/-! slices.ContainsFunc[[]float32,float32] -/
noncomputable def c_slices_ContainsFunc__float32_vfin : Ctx := mkC Try.prog tyT [(168, s_slices_IndexFunc__float32_vfin)] [] [] 9 (fun _ => none) 0
theorem w_slices_ContainsFunc__float32_vfin (xs : List (Nat)) (K : V → Heap → Prop) : wpFn c_slices_ContainsFunc__float32_vfin Try.f142 (encAs [.cell (.slice (tF)), .fn 157] (xs, (), ())) [] K =
  K (.bool (decide (idxF (fun x => !finN x) xs ≥ 0))) [] := by kernel_rfl
noncomputable def s_slices_ContainsFunc__float32_vfin : Sm := semT [.cell (.slice (tF)), .fn 157] fun x => match x with | (xs, _, _) => .bool (xs.any (fun x => !finN x))
theorem ok_slices_ContainsFunc__float32_vfin : FnOk Try.prog 142 s_slices_ContainsFunc__float32_vfin := fnOk_typed (fnOk_runC (C := c_slices_ContainsFunc__float32_vfin) rfl mixed (.cons ok_slices_IndexFunc__float32_vfin .nil) .nil .nil Try.func142 (by kernel_rfl)) fun (x : ((List (Nat)) × Unit × Unit)) wf K h => by
  obtain ⟨xs, ⟨⟩, ⟨⟩⟩ := x
  replace h : K (.bool (xs.any (fun x => !finN x))) [] := h
  rw [w_slices_ContainsFunc__float32_vfin xs K]
  rw [idxF_ge]
  exact h


/-! impl.finite -/
noncomputable def c_impl_finite : Ctx := mkC Try.prog tyT [(142, s_slices_ContainsFunc__float32_vfin)] [] [] 6 (fun _ => none) 0
theorem w_impl_finite (xs : List Nat) (K : V → Heap → Prop) : wpFn c_impl_finite Try.f131 (encAs [.cell (.slice tF)] (xs, ())) [] K =
  K (.bool (!List.any xs fun x => !finN x)) [] := by kernel_rfl
noncomputable def s_impl_finite : Sm := semT [.cell (.slice tF)] fun x => match x with | (xs, _) => .bool (!xs.any (fun x => !finN x))
theorem ok_impl_finite : FnOk Try.prog 131 s_impl_finite := fnOk_typed (fnOk_runC (C := c_impl_finite) rfl mixed (.cons ok_slices_ContainsFunc__float32_vfin .nil) .nil .nil Try.func131 (by kernel_rfl)) fun (x : ((List Nat) × Unit)) wf K h => by
  obtain ⟨xs, ⟨⟩⟩ := x
  replace h : K (.bool (!xs.any (fun x => !finN x))) [] := h
  rw [w_impl_finite xs K]
  exact h

/-! impl.numbersOk$1 -/
noncomputable def c_impl_numbersOk_1 : Ctx := mkC Try.prog tyT [] [] [] 20 (fun _ => none) 0
theorem w_impl_numbersOk_1 (x : Nat) (a b : Int) (c : Bool) (d : Int) (K : V → Heap → Prop) : wpFn c_impl_numbersOk_1 Try.f143 (encAs [.cell tF, .ref tR] (x, (a, b, c, d), ())) [] K =
  cond (d == 1)
    (cond (flt FloatKind.f32 x 0)
      (K (.bool true) [])
      (cond (d == 2)
        (K (.bool (fle FloatKind.f32 x 0)) [])
        (K (.bool false) [])))
    (cond (d == 2)
      (K (.bool (fle FloatKind.f32 x 0)) [])
      (K (.bool false) [])) := by kernel_rfl
noncomputable def s_impl_numbersOk_1 : Sm := semT [.cell tF, .ref tR] fun x => match x with | (x, (a, b, c, d), _) => .bool (sgnB d x)
theorem ok_impl_numbersOk_1 : FnOk Try.prog 143 s_impl_numbersOk_1 := fnOk_typed (fnOk_runC (C := c_impl_numbersOk_1) rfl mixed .nil .nil .nil Try.func143 (by kernel_rfl)) fun (x : ((Nat) × ((Int) × (Int) × (Bool) × (Int)) × Unit)) wf K h => by
  obtain ⟨x, ⟨a, b, c, d⟩, ⟨⟩⟩ := x
  replace h : K (.bool (sgnB d x)) [] := h
  rw [w_impl_numbersOk_1 x a b c d K]
  revert h
  unfold sgnB
  cases d == 1 <;> cases d == 2 <;> cases flt FloatKind.f32 x 0 <;> exact id

/-! slices.IndexFunc[[]float32,float32] -/
noncomputable def a_slices_IndexFunc__float32_vsgn : Nat → Option Ann := fun n => bif Nat.beq n 2 then some ⟨[0,1,7,8],0,false⟩ else none
noncomputable def c_slices_IndexFunc__float32_vsgn : Ctx := mkC Try.prog tyT [(143, s_impl_numbersOk_1)] [] [] 19 a_slices_IndexFunc__float32_vsgn 0
noncomputable def fr_slices_IndexFunc__float32_vsgn_2 (xs : List (Nat)) (a b : Int) (c : Bool) (d : Int) (n i : Int) : Fr := [(0, .vec (tF) xs), (1, .fn 143 [.ref [.int .i64 a, .int .i64 b, .bool c, .int .i64 d] 0]), (7, .int .i64 n), (8, .int .i64 i)]
theorem r_slices_IndexFunc__float32_vsgn_2 (xs : List (Nat)) (a b : Int) (c : Bool) (d : Int) (n i : Int) (Kn : Fr → Heap → Prop) (K : V → Heap → Prop) : round c_slices_IndexFunc__float32_vsgn ⟨[0,1,7,8],0,false⟩ (lb c_slices_IndexFunc__float32_vsgn 2 Try.f168) (fr_slices_IndexFunc__float32_vsgn_2 xs a b c d n i) [] Kn (lk c_slices_IndexFunc__float32_vsgn 2 Try.f168 [] K) =
  cond (decide (i < n))
    (cond (decide (0 ≤ i))
      ((match xs[Int.toNat i]? with
        | some y0 => cond (sgnB d y0)
          (K (.int .i64 (i)) [])
          (Kn [(0, (.vec (.float .f32) (xs))), (1, (.fn 143 [(.ref [(.int .i64 (a)), (.int .i64 (b)), (.bool (c)), (.int .i64 (d))] 0)])), (7, (.int .i64 (n))), (8, (.int .i64 (IntKind.wrap IntKind.i64 (i + 1))))] [])
        | none => False))
      (False))
    (K (.int .i64 (-1)) []) := by kernel_rfl
theorem w_slices_IndexFunc__float32_vsgn (xs : List (Nat)) (a b : Int) (c : Bool) (d : Int) (K : V → Heap → Prop) : wpFn c_slices_IndexFunc__float32_vsgn Try.f168 (encAs [.cell (.slice (tF)), .clo 143 tR] (xs, (a, b, c, d), ())) [] K =
  LoopE c_slices_IndexFunc__float32_vsgn ⟨[0, 1, 7, 8], 0, false⟩ (lb c_slices_IndexFunc__float32_vsgn 2 Try.f168) [(0, (.vec (.float .f32) (xs))), (1, (.fn 143 [(.ref [(.int .i64 (a)), (.int .i64 (b)), (.bool (c)), (.int .i64 (d))] 0)])), (7, (.int .i64 ((↑(List.length xs) : Int)))), (8, (.int .i64 0))] [] (lk c_slices_IndexFunc__float32_vsgn 2 Try.f168 [] K) := by kernel_rfl
noncomputable def s_slices_IndexFunc__float32_vsgn : Sm := semT [.cell (.slice (tF)), .clo 143 tR] fun x => match x with | (xs, (a, b, c, d), _) => .int .i64 (idxF (fun x => sgnB d x) xs)
theorem ok_slices_IndexFunc__float32_vsgn : FnOk Try.prog 168 s_slices_IndexFunc__float32_vsgn := fnOk_typed (fnOk_runC (C := c_slices_IndexFunc__float32_vsgn) rfl mixed (.cons ok_impl_numbersOk_1 .nil) .nil .nil Try.func168 (by kernel_rfl)) fun (x : ((List (Nat)) × ((Int) × (Int) × (Bool) × (Int)) × Unit)) wf K h => by
  obtain ⟨xs, ⟨a, b, c, d⟩, ⟨⟩⟩ := x
  replace h : K (.int .i64 (idxF (fun x => sgnB d x) xs)) [] := h
  rw [w_slices_IndexFunc__float32_vsgn xs a b c d K]
  obtain ⟨⟨wl, _⟩, _⟩ := wf
  have wl : xs.length ≤ 9223372036854775807 := wl
  refine loop_run (σ := Nat) (fun i => fr_slices_IndexFunc__float32_vsgn_2 xs a b c d xs.length i) (fun _ => []) (fun i => i ≤ xs.length ∧ (xs.take i).any (fun x => sgnB d x) = false) (fun i => xs.length - i) ?_ 0 ⟨Nat.zero_le _, rfl⟩
  intro i hi Kn hk
  rw [r_slices_IndexFunc__float32_vsgn_2 xs a b c d xs.length i Kn K]
  by_cases hlt : i < xs.length
  · simp only [d_lt hlt, d_0, cond_true, Int.toNat_natCast, get_lt hlt]
    cases hp : (fun x => sgnB d x) (xs[i]'hlt) with
    | true =>
      rw [idxF_hit hlt hi.2 hp] at h
      simp only at hp
      simp only [hp, cond_true]
      exact h
    | false =>
      have hn := any_snoc (f := (fun x => sgnB d x)) hlt hi.2 hp
      simp only at hp
      simp only [hp, cond_false]
      rw [i64_of (by omega) (by omega)]
      exact hk (i + 1) ⟨hlt, hn⟩ (by omega)
  · simp only [d_nlt hlt, cond_false]
    have : i = xs.length := by omega
    subst this
    have ha := hi.2
    rw [List.take_length] at ha
    rw [idxF_none ha] at h
    exact h

/-! slices.ContainsFunc[[]float32,float32] -/
noncomputable def c_slices_ContainsFunc__float32_vsgn : Ctx := mkC Try.prog tyT [(168, s_slices_IndexFunc__float32_vsgn)] [] [] 9 (fun _ => none) 0
theorem w_slices_ContainsFunc__float32_vsgn (xs : List (Nat)) (a b : Int) (c : Bool) (d : Int) (K : V → Heap → Prop) : wpFn c_slices_ContainsFunc__float32_vsgn Try.f142 (encAs [.cell (.slice (tF)), .clo 143 tR] (xs, (a, b, c, d), ())) [] K =
  K (.bool (decide (idxF (fun x => sgnB d x) xs ≥ 0))) [] := by kernel_rfl
noncomputable def s_slices_ContainsFunc__float32_vsgn : Sm := semT [.cell (.slice (tF)), .clo 143 tR] fun x => match x with | (xs, (a, b, c, d), _) => .bool (xs.any (fun x => sgnB d x))
theorem ok_slices_ContainsFunc__float32_vsgn : FnOk Try.prog 142 s_slices_ContainsFunc__float32_vsgn := fnOk_typed (fnOk_runC (C := c_slices_ContainsFunc__float32_vsgn) rfl mixed (.cons ok_slices_IndexFunc__float32_vsgn .nil) .nil .nil Try.func142 (by kernel_rfl)) fun (x : ((List (Nat)) × ((Int) × (Int) × (Bool) × (Int)) × Unit)) wf K h => by
  obtain ⟨xs, ⟨a, b, c, d⟩, ⟨⟩⟩ := x
  replace h : K (.bool (xs.any (fun x => sgnB d x))) [] := h
  rw [w_slices_ContainsFunc__float32_vsgn xs a b c d K]
  rw [idxF_ge]
  exact h


/-! impl.numbersOk -/
noncomputable def c_impl_numbersOk : Ctx := mkC Try.prog tyT [(98, s_impl_ruleOf), (131, s_impl_finite), (142, s_slices_ContainsFunc__float32_vsgn)] [] [] 30 (fun _ => none) 0
theorem w_impl_numbersOk (k : Int) (xs : List Nat) (K : V → Heap → Prop) : wpFn c_impl_numbersOk Try.f92 (encAs [.cell tI, .cell (.slice tF)] (k, xs, ())) [] K =
  cond (!isK k)
    (K (.bool false) [])
    (cond ((↑(List.length xs) : Int) != kindN k)
      (K (.bool false) [])
      (cond (!!List.any xs fun x => !finN x)
        (K (.bool false) [])
        (K (.bool (!List.any xs fun x => sgnB (kindS k) x)) []))) := by kernel_rfl
noncomputable def s_impl_numbersOk : Sm := semT [.cell tI, .cell (.slice tF)] fun x => match x with | (k, xs, _) => .bool (numsB k xs)
theorem ok_impl_numbersOk : FnOk Try.prog 92 s_impl_numbersOk := fnOk_typed (fnOk_runC (C := c_impl_numbersOk) rfl mixed (.cons ok_impl_ruleOf (.cons ok_impl_finite (.cons ok_slices_ContainsFunc__float32_vsgn .nil))) .nil .nil Try.func92 (by kernel_rfl)) fun (x : ((Int) × (List Nat) × Unit)) wf K h => by
  obtain ⟨k, xs, ⟨⟩⟩ := x
  replace h : K (.bool (numsB k xs)) [] := h
  rw [w_impl_numbersOk k xs K]
  revert h
  unfold numsB
  simp only [bne]
  cases isK k <;> cases ((xs.length : Int) == kindN k) <;> cases (xs.any fun x => !finN x) <;> exact id

/-! impl.axisOk -/
noncomputable def c_impl_axisOk : Ctx := mkC Try.prog tyT [(98, s_impl_ruleOf), (79, s_impl_in)] [] [] 46 (fun _ => none) 0
theorem w_impl_axisOk (k a b : Int) (xs : List Nat) (K : V → Heap → Prop) : wpFn c_impl_axisOk Try.f93 (encAs [.ref tN] ((k, a, b, xs), ())) [] K =
  cond (decide (kindC k > 0))
    (cond (kindC k == 2)
      (K (.bool true) [])
      (cond (b == 0)
        (K (.bool true) [])
        (cond (kindA k)
          (K (.bool (inR b 0 2)) [])
          (K (.bool false) []))))
    (cond (a == 0)
      (cond (kindC k == 2)
        (K (.bool true) [])
        (cond (b == 0)
          (K (.bool true) [])
          (cond (kindA k)
            (K (.bool (inR b 0 2)) [])
            (K (.bool false) []))))
      (K (.bool false) [])) := by kernel_rfl
noncomputable def s_impl_axisOk : Sm := semT [.ref tN] fun x => match x with | ((k, a, b, xs), _) => .bool (axB k a b)
theorem ok_impl_axisOk : FnOk Try.prog 93 s_impl_axisOk := fnOk_typed (fnOk_runC (C := c_impl_axisOk) rfl mixed (.cons ok_impl_ruleOf (.cons ok_impl_in .nil)) .nil .nil Try.func93 (by kernel_rfl)) fun (x : (((Int) × (Int) × (Int) × (List Nat)) × Unit)) wf K h => by
  obtain ⟨⟨k, a, b, xs⟩, ⟨⟩⟩ := x
  replace h : K (.bool (axB k a b)) [] := h
  rw [w_impl_axisOk k a b xs K]
  revert h
  unfold axB
  cases decide (kindC k > 0) <;> cases a == 0 <;> cases kindC k == 2 <;> cases b == 0 <;> cases kindA k <;> exact id

/-! impl.childrenOf -/
noncomputable def c_impl_childrenOf : Ctx := mkC Try.prog tyT [(98, s_impl_ruleOf)] [] [] 25 (fun _ => none) 0 true
theorem w_impl_childrenOf (k a b : Int) (xs : List Nat) (K : V → Heap → Prop) : wpFn c_impl_childrenOf Try.f83 (encAs [.ref tN] ((k, a, b, xs), ())) [] K =
  cond (decide (0 ≤ 0) && (decide (0 ≤ kindC k) && decide (kindC k ≤ (↑2 : Int))))
    (K (.vec (.int .i64) (List.drop 0 (List.take (Int.toNat (kindC k)) [a, b]))) [])
    (False) := by kernel_rfl
noncomputable def s_impl_childrenOf : Sm := semT [.ref tN] fun x => match x with | ((k, a, b, xs), _) => .vec tI (kids k a b)
theorem ok_impl_childrenOf : FnOk Try.prog 83 s_impl_childrenOf := fnOk_typed (fnOk_runC (C := c_impl_childrenOf) rfl mixed (.cons ok_impl_ruleOf .nil) .nil .nil Try.func83 (by kernel_rfl)) fun (x : (((Int) × (Int) × (Int) × (List Nat)) × Unit)) wf K h => by
  obtain ⟨⟨k, a, b, xs⟩, ⟨⟩⟩ := x
  replace h : K (.vec tI (kids k a b)) [] := h
  rw [w_impl_childrenOf k a b xs K]
  have hc := kindC_range k
  have h3 : kindC k ≤ 2 := hc.2
  simp only [hc.1, h3, Int.le_refl, decide_true, Bool.and_self, cond_true]
  exact h

/-! impl.ValidShape$1 -/
noncomputable def c_impl_ValidShape_1 : Ctx := mkC Try.prog tyT [] [] [] 5 (fun _ => none) 0
theorem w_impl_ValidShape_1 (n : Int) (K : V → Heap → Prop) : wpFn c_impl_ValidShape_1 Try.f95 (encAs [.cell tI] (n, ())) [] K =
  K (.bool (n != 1)) [] := by kernel_rfl
noncomputable def s_impl_ValidShape_1 : Sm := semT [.cell tI] fun x => match x with | (n, _) => .bool (n != 1)
theorem ok_impl_ValidShape_1 : FnOk Try.prog 95 s_impl_ValidShape_1 := fnOk_typed (fnOk_runC (C := c_impl_ValidShape_1) rfl mixed .nil .nil .nil Try.func95 (by kernel_rfl)) fun (x : ((Int) × Unit)) wf K h => by
  obtain ⟨n, ⟨⟩⟩ := x
  replace h : K (.bool (n != 1)) [] := h
  rw [w_impl_ValidShape_1 n K]
  exact h

/-! slices.IndexFunc[[]int,int] -/
noncomputable def a_slices_IndexFunc__int_vone : Nat → Option Ann := fun n => bif Nat.beq n 2 then some ⟨[0,1,7,8],0,false⟩ else none
noncomputable def c_slices_IndexFunc__int_vone : Ctx := mkC Try.prog tyT [(95, s_impl_ValidShape_1)] [] [] 19 a_slices_IndexFunc__int_vone 0
noncomputable def fr_slices_IndexFunc__int_vone_2 (xs : List (Int)) (n i : Int) : Fr := [(0, .vec (tI) xs), (1, .fn 95 []), (7, .int .i64 n), (8, .int .i64 i)]
theorem r_slices_IndexFunc__int_vone_2 (xs : List (Int)) (n i : Int) (Kn : Fr → Heap → Prop) (K : V → Heap → Prop) : round c_slices_IndexFunc__int_vone ⟨[0,1,7,8],0,false⟩ (lb c_slices_IndexFunc__int_vone 2 Try.f144) (fr_slices_IndexFunc__int_vone_2 xs n i) [] Kn (lk c_slices_IndexFunc__int_vone 2 Try.f144 [] K) =
  cond (decide (i < n))
    (cond (decide (0 ≤ i))
      ((match xs[Int.toNat i]? with
        | some y0 => cond (y0 != 1)
          (K (.int .i64 (i)) [])
          (Kn [(0, (.vec (.int .i64) (xs))), (1, (.fn 95 [])), (7, (.int .i64 (n))), (8, (.int .i64 (IntKind.wrap IntKind.i64 (i + 1))))] [])
        | none => False))
      (False))
    (K (.int .i64 (-1)) []) := by kernel_rfl
theorem w_slices_IndexFunc__int_vone (xs : List (Int)) (K : V → Heap → Prop) : wpFn c_slices_IndexFunc__int_vone Try.f144 (encAs [.cell (.slice (tI)), .fn 95] (xs, (), ())) [] K =
  LoopE c_slices_IndexFunc__int_vone ⟨[0, 1, 7, 8], 0, false⟩ (lb c_slices_IndexFunc__int_vone 2 Try.f144) [(0, (.vec (.int .i64) (xs))), (1, (.fn 95 [])), (7, (.int .i64 ((↑(List.length xs) : Int)))), (8, (.int .i64 0))] [] (lk c_slices_IndexFunc__int_vone 2 Try.f144 [] K) := by kernel_rfl
noncomputable def s_slices_IndexFunc__int_vone : Sm := semT [.cell (.slice (tI)), .fn 95] fun x => match x with | (xs, _, _) => .int .i64 (idxF (fun x => x != 1) xs)
theorem ok_slices_IndexFunc__int_vone : FnOk Try.prog 144 s_slices_IndexFunc__int_vone := fnOk_typed (fnOk_runC (C := c_slices_IndexFunc__int_vone) rfl mixed (.cons ok_impl_ValidShape_1 .nil) .nil .nil Try.func144 (by kernel_rfl)) fun (x : ((List (Int)) × Unit × Unit)) wf K h => by
  obtain ⟨xs, ⟨⟩, ⟨⟩⟩ := x
  replace h : K (.int .i64 (idxF (fun x => x != 1) xs)) [] := h
  rw [w_slices_IndexFunc__int_vone xs K]
  obtain ⟨⟨wl, _⟩, _⟩ := wf
  have wl : xs.length ≤ 9223372036854775807 := wl
  refine loop_run (σ := Nat) (fun i => fr_slices_IndexFunc__int_vone_2 xs xs.length i) (fun _ => []) (fun i => i ≤ xs.length ∧ (xs.take i).any (fun x => x != 1) = false) (fun i => xs.length - i) ?_ 0 ⟨Nat.zero_le _, rfl⟩
  intro i hi Kn hk
  rw [r_slices_IndexFunc__int_vone_2 xs xs.length i Kn K]
  by_cases hlt : i < xs.length
  · simp only [d_lt hlt, d_0, cond_true, Int.toNat_natCast, get_lt hlt]
    cases hp : (fun x => x != 1) (xs[i]'hlt) with
    | true =>
      rw [idxF_hit hlt hi.2 hp] at h
      simp only at hp
      simp only [hp, cond_true]
      exact h
    | false =>
      have hn := any_snoc (f := (fun x => x != 1)) hlt hi.2 hp
      simp only at hp
      simp only [hp, cond_false]
      rw [i64_of (by omega) (by omega)]
      exact hk (i + 1) ⟨hlt, hn⟩ (by omega)
  · simp only [d_nlt hlt, cond_false]
    have : i = xs.length := by omega
    subst this
    have ha := hi.2
    rw [List.take_length] at ha
    rw [idxF_none ha] at h
    exact h

/-! slices.ContainsFunc[[]int,int] -/
noncomputable def c_slices_ContainsFunc__int_vone : Ctx := mkC Try.prog tyT [(144, s_slices_IndexFunc__int_vone)] [] [] 9 (fun _ => none) 0
theorem w_slices_ContainsFunc__int_vone (xs : List (Int)) (K : V → Heap → Prop) : wpFn c_slices_ContainsFunc__int_vone Try.f94 (encAs [.cell (.slice (tI)), .fn 95] (xs, (), ())) [] K =
  K (.bool (decide (idxF (fun x => x != 1) xs ≥ 0))) [] := by kernel_rfl
noncomputable def s_slices_ContainsFunc__int_vone : Sm := semT [.cell (.slice (tI)), .fn 95] fun x => match x with | (xs, _, _) => .bool (xs.any (fun x => x != 1))
theorem ok_slices_ContainsFunc__int_vone : FnOk Try.prog 94 s_slices_ContainsFunc__int_vone := fnOk_typed (fnOk_runC (C := c_slices_ContainsFunc__int_vone) rfl mixed (.cons ok_slices_IndexFunc__int_vone .nil) .nil .nil Try.func94 (by kernel_rfl)) fun (x : ((List (Int)) × Unit × Unit)) wf K h => by
  obtain ⟨xs, ⟨⟩, ⟨⟩⟩ := x
  replace h : K (.bool (xs.any (fun x => x != 1))) [] := h
  rw [w_slices_ContainsFunc__int_vone xs K]
  rw [idxF_ge]
  exact h


/-! impl.ValidShape -/
noncomputable def a_impl_ValidShape : Nat → Option Ann := fun n => bif Nat.beq n 5 then some ⟨[1,3,20,21],2,false⟩ else bif Nat.beq n 11 then some ⟨[1,3,4,20,21,44,45,46],2,false⟩ else none
noncomputable def c_impl_ValidShape : Ctx := mkC Try.prog tyT [(79, s_impl_in), (92, s_impl_numbersOk), (93, s_impl_axisOk), (83, s_impl_childrenOf), (94, s_slices_ContainsFunc__int_vone)] [] [] 78 a_impl_ValidShape 0
noncomputable def fr_impl_ValidShape_5 (ns : List NodeD) (us : List Int) (n i : Int) : Fr := [(1, .ptr 0 0), (3, .obj 1 0), (20, .int .i64 n), (21, .int .i64 i)]
noncomputable def hp_impl_ValidShape_5 (ns : List NodeD) (us : List Int) (n i : Int) : Heap := [.box [.vec tN ns], .sl 0 tI us]
theorem r_impl_ValidShape_5 (ns : List NodeD) (us : List Int) (n i : Int) (Kn : Fr → Heap → Prop) (K : V → Heap → Prop) : round c_impl_ValidShape ⟨[1,3,20,21],2,false⟩ (lb c_impl_ValidShape 5 Try.f33) (fr_impl_ValidShape_5 ns us n i) (hp_impl_ValidShape_5 ns us n i) Kn (lk c_impl_ValidShape 5 Try.f33 [] K) =
  cond (decide (i < n))
    (cond (decide (0 ≤ i))
      ((match ns[Int.toNat i]? with
        | some y0 => cond (!numsB (Prod.fst y0) (Prod.snd (Prod.snd (Prod.snd y0))))
          (K (.bool false) [])
          (cond (!axB (Prod.fst y0) (Prod.fst (Prod.snd y0)) (Prod.fst (Prod.snd (Prod.snd y0))))
            (K (.bool false) [])
            (LoopE c_impl_ValidShape ⟨[1, 3, 4, 20, 21, 44, 45, 46], 2, false⟩ (pathB c_impl_ValidShape [5, 11] (bodyOf Try.f33)) [(1, (.ptr 0 0)), (3, (.obj 1 0)), (4, (.int .i64 (i))), (20, (.int .i64 (n))), (21, (.int .i64 (i))), (44, (.vec (.int .i64) (kids (Prod.fst y0) (Prod.fst (Prod.snd y0)) (Prod.fst (Prod.snd (Prod.snd y0)))))), (45, (.int .i64 ((↑(List.length (kids (Prod.fst y0) (Prod.fst (Prod.snd y0)) (Prod.fst (Prod.snd (Prod.snd y0))))) : Int)))), (46, (.int .i64 0))] [(.box [(.vec tN (ns))]), (.sl 0 (.int .i64) (us))] (pathK c_impl_ValidShape [(5, ⟨[1,3,20,21],2,false⟩, Kn)] 11 (bodyOf Try.f33) (kFn c_impl_ValidShape Try.f33 [] K))))
        | none => False))
      (False))
    (cond (decide (0 ≤ IntKind.wrap IntKind.i64 ((↑(List.length us) : Int) - 1)) && Nat.blt (Int.toNat (IntKind.wrap IntKind.i64 ((↑(List.length us) : Int) - 1))) (List.length us))
      ((match us[Int.toNat (IntKind.wrap IntKind.i64 ((↑(List.length us) : Int) - 1))]? with
        | some x1 => cond (x1 == 0)
          (cond (decide (0 ≤ 0) && (decide (0 ≤ IntKind.wrap IntKind.i64 ((↑(List.length us) : Int) - 1)) && decide (IntKind.wrap IntKind.i64 ((↑(List.length us) : Int) - 1) ≤ (↑(List.length us) : Int))))
            (K (.bool (!List.any (List.drop 0 (List.take (Int.toNat (IntKind.wrap IntKind.i64 ((↑(List.length us) : Int) - 1))) us)) fun x => x != 1)) [])
            (False))
          (K (.bool false) [])
        | none => False))
      (False)) := by kernel_rfl
noncomputable def fr_impl_ValidShape_11 (ns : List NodeD) (us : List Int) (n i p : Int) (cs : List Int) (m j : Int) : Fr := [(1, .ptr 0 0), (3, .obj 1 0), (4, .int .i64 p), (20, .int .i64 n), (21, .int .i64 i), (44, .vec tI cs), (45, .int .i64 m), (46, .int .i64 j)]
noncomputable def hp_impl_ValidShape_11 (ns : List NodeD) (us : List Int) (n i p : Int) (cs : List Int) (m j : Int) : Heap := [.box [.vec tN ns], .sl 0 tI us]
theorem r_impl_ValidShape_11 (ns : List NodeD) (us : List Int) (n i p : Int) (cs : List Int) (m j : Int) (Kn5 : Fr → Heap → Prop) (Kn : Fr → Heap → Prop) (K : V → Heap → Prop) : round c_impl_ValidShape ⟨[1,3,4,20,21,44,45,46],2,false⟩ (pathB c_impl_ValidShape [5, 11] (bodyOf Try.f33)) (fr_impl_ValidShape_11 ns us n i p cs m j) (hp_impl_ValidShape_11 ns us n i p cs m j) Kn (pathK c_impl_ValidShape [(5, ⟨[1,3,20,21],2,false⟩, Kn5)] 11 (bodyOf Try.f33) (kFn c_impl_ValidShape Try.f33 [] K)) =
  cond (decide (j < m))
    (cond (decide (0 ≤ j))
      ((match cs[Int.toNat j]? with
        | some y0 => cond (!inR y0 0 (IntKind.wrap IntKind.i64 (p - 1)))
          (K (.bool false) [])
          (cond (decide (0 ≤ y0) && Nat.blt (Int.toNat y0) (List.length us))
            ((match us[Int.toNat y0]? with
              | some x1 => cond (decide (0 ≤ y0) && Nat.blt (Int.toNat y0) (List.length us))
                ((match us[Int.toNat y0]? with
                  | some x2 => Kn [(1, (.ptr 0 0)), (3, (.obj 1 0)), (4, (.int .i64 (p))), (20, (.int .i64 (n))), (21, (.int .i64 (i))), (44, (.vec (.int .i64) (cs))), (45, (.int .i64 (m))), (46, (.int .i64 (IntKind.wrap IntKind.i64 (j + 1))))] [(.box [(.vec tN (ns))]), (.sl 0 (.int .i64) (List.set us (Int.toNat y0) (IntKind.wrap IntKind.i64 (x1 + 1))))]
                  | none => False))
                (False)
              | none => False))
            (False))
        | none => False))
      (False))
    (Kn5 [(1, (.ptr 0 0)), (3, (.obj 1 0)), (20, (.int .i64 (n))), (21, (.int .i64 (IntKind.wrap IntKind.i64 (i + 1))))] [(.box [(.vec tN (ns))]), (.sl 0 (.int .i64) (us))]) := by kernel_rfl
theorem w_impl_ValidShape (ns : List NodeD) (K : V → Heap → Prop) : wpFn c_impl_ValidShape Try.f33 (encAs [.agg (.slice tN)] (ns, ())) [] K =
  cond (!inR (↑(List.length ns) : Int) 1 16)
    (K (.bool false) [])
    (cond (decide (0 ≤ (↑(List.length ns) : Int)) && (decide ((↑(List.length ns) : Int) ≤ (↑(List.length ns) : Int)) && decide ((↑8 : Int) * (↑(List.length ns) : Int) ≤ 281474976710656)))
      (LoopE c_impl_ValidShape ⟨[1, 3, 20, 21], 2, false⟩ (lb c_impl_ValidShape 5 Try.f33) [(1, (.ptr 0 0)), (3, (.obj 1 0)), (20, (.int .i64 ((↑(List.length ns) : Int)))), (21, (.int .i64 0))] [(.box [(.vec tN (ns))]), (.sl 0 (.int .i64) (List.replicate (Int.toNat (↑(List.length ns) : Int)) 0))] (lk c_impl_ValidShape 5 Try.f33 [] K))
      (False)) := by kernel_rfl
noncomputable def s_impl_ValidShape : Sm := semT [.agg (.slice tN)] fun x => match x with | (ns, _) => .bool (validS ns)
theorem ok_impl_ValidShape : FnOk Try.prog 33 s_impl_ValidShape := fnOk_typed (fnOk_runC (C := c_impl_ValidShape) rfl mixed (.cons ok_impl_in (.cons ok_impl_numbersOk (.cons ok_impl_axisOk (.cons ok_impl_childrenOf (.cons ok_slices_ContainsFunc__int_vone .nil))))) .nil .nil Try.func33 (by kernel_rfl)) fun (x : ((List NodeD) × Unit)) wf K h => by
  obtain ⟨ns, ⟨⟩⟩ := x
  replace h : K (.bool (validS ns)) [] := h
  rw [w_impl_ValidShape ns K]
  cases hin : inR (ns.length : Int) 1 16 with
  | false =>
    have : validS ns = false := by unfold validS; rw [hin]; rfl
    rw [this] at h
    exact h
  | true =>
    have hr := inR_iff.1 hin
    simp only [Bool.not_true, cond_false, Int.toNat_natCast]
    have e8 : 8 * (ns.length : Int) ≤ 281474976710656 := by omega
    simp only [d_0, Int.le_refl, decide_true, e8, Bool.and_self, cond_true]
    refine loop_run (σ := Nat) (fun i => fr_impl_ValidShape_5 ns [] ns.length i) (fun i => hp_impl_ValidShape_5 ns (usesAt ns i) ns.length i) (fun i => i ≤ ns.length ∧ OkUp ns i) (fun i => ns.length - i) ?_ 0 ⟨Nat.zero_le _, fun j n hj => by omega⟩
    intro i hi Kn5 hk5
    obtain ⟨u1, u2, u3⟩ := uses_facts i hi.1 hi.2
    rw [show fr_impl_ValidShape_5 ns [] ns.length i = fr_impl_ValidShape_5 ns (usesAt ns i) ns.length i from rfl, r_impl_ValidShape_5 ns (usesAt ns i) ns.length i Kn5 K]
    by_cases hlt : i < ns.length
    · simp only [d_lt hlt, d_0, cond_true, Int.toNat_natCast, get_lt hlt]
      generalize hy : ns[i]'hlt = y
      obtain ⟨k, a, b, xs⟩ := y
      have no : nodeB i (k, a, b, xs) = false → K (.bool false) [] := fun e => by
        rw [valid_no hlt (by rw [hy]; exact e)] at h
        exact h
      cases e1 : numsB k xs with
      | false => exact no (by unfold nodeB; simp only [e1, Bool.false_and])
      | true =>
        simp only [Bool.not_true, cond_false]
        cases e2 : axB k a b with
        | false => exact no (by unfold nodeB; simp only [e1, e2, Bool.false_and, Bool.and_false])
        | true =>
          simp only [Bool.not_true, cond_false]
          refine loop_run (σ := Nat) (fun j => fr_impl_ValidShape_11 ns [] ns.length i i (kids k a b) (kids k a b).length j) (fun j => hp_impl_ValidShape_11 ns (incs (usesAt ns i) ((kids k a b).take j)) 0 0 0 [] 0 0) (fun j => j ≤ (kids k a b).length ∧ ∀ c ∈ (kids k a b).take j, 0 ≤ c ∧ c < (i : Int)) (fun j => (kids k a b).length - j) ?_ 0 ⟨Nat.zero_le _, by simp⟩
          intro j hj Kn hk
          have hk2 : (kids k a b).length ≤ 2 := kids_len (k, a, b, xs)
          obtain ⟨v1, v2, v3⟩ := incs_facts (i := i) ((kids k a b).take j) (u := usesAt ns i) (B := 2 * (i : Int)) (fun c hc => hj.2 c hc) u2 (by omega)
          rw [show fr_impl_ValidShape_11 ns [] ns.length i i (kids k a b) (kids k a b).length j = fr_impl_ValidShape_11 ns (incs (usesAt ns i) ((kids k a b).take j)) ns.length i i (kids k a b) (kids k a b).length j from rfl,
            show hp_impl_ValidShape_11 ns (incs (usesAt ns i) ((kids k a b).take j)) 0 0 0 [] 0 0 = hp_impl_ValidShape_11 ns (incs (usesAt ns i) ((kids k a b).take j)) ns.length i i (kids k a b) (kids k a b).length j from rfl,
            r_impl_ValidShape_11 ns (incs (usesAt ns i) ((kids k a b).take j)) ns.length i i (kids k a b) (kids k a b).length j Kn5 Kn K]
          by_cases hjl : j < (kids k a b).length
          · simp only [d_lt hjl, d_0, cond_true, Int.toNat_natCast, get_lt hjl]
            rw [i64_of (n := (i : Int) - 1) (by omega) (by omega)]
            generalize hc : (kids k a b)[j]'hjl = c
            cases e3 : inR c 0 ((i : Int) - 1) with
            | false =>
              refine no ?_
              have : (kidsN (k, a, b, xs)).all (fun c => inR c 0 ((i : Int) - 1)) = false := List.all_eq_false.2 ⟨c, by rw [← hc]; exact List.getElem_mem hjl, by rw [e3]; simp⟩
              unfold nodeB
              rw [this, Bool.and_false, Bool.and_false]
            | true =>
              have hcr := inR_iff.1 e3
              have hcl : c.toNat < (incs (usesAt ns i) ((kids k a b).take j)).length := by rw [v1, u1]; omega
              simp only [Bool.not_true, cond_false, d_t hcr.1, blt_t hcl, Bool.and_self, cond_true, get_lt hcl]
              have hx := v2 _ (List.getElem_mem hcl)
              have hjt : ((kids k a b).take j).length ≤ 2 := by rw [List.length_take]; omega
              rw [i64_of (n := (incs (usesAt ns i) ((kids k a b).take j))[c.toNat]'hcl + 1) (by omega) (by omega), i64_of (by omega) (by omega)]
              have := hk (j + 1) ⟨hjl, fun c' hc' => by
                rw [take_one hjl, List.mem_append] at hc'
                rcases hc' with hc' | hc'
                · exact hj.2 c' hc'
                · rw [List.mem_singleton, hc] at hc'; omega⟩ (by omega)
              rw [show hp_impl_ValidShape_11 ns (incs (usesAt ns i) ((kids k a b).take (j + 1))) 0 0 0 [] 0 0 = [.box [.vec tN ns], .sl 0 tI ((incs (usesAt ns i) ((kids k a b).take j)).set c.toNat ((incs (usesAt ns i) ((kids k a b).take j))[c.toNat]'hcl + 1))] by
                rw [incs_take _ hjl, hc]
                unfold inc1
                rw [get_lt hcl]
                rfl] at this
              exact this
          · simp only [d_nlt hjl, cond_false]
            rw [i64_of (by omega) (by omega)]
            have hall : (kids k a b).take j = kids k a b := List.take_of_length_le (by omega)
            have hn : nodeB i (k, a, b, xs) = true := by
              unfold nodeB
              rw [e1, e2, Bool.true_and, Bool.true_and]
              refine List.all_eq_true.2 fun c hc => inR_iff.2 ?_
              have := hj.2 c (by rw [hall]; exact hc)
              omega
            have := hk5 (i + 1) ⟨hlt, okUp_succ hlt hi.2 (by rw [hy]; exact hn)⟩ (by omega)
            rw [show hp_impl_ValidShape_5 ns (usesAt ns (i + 1)) ns.length ((i + 1 : Nat) : Int) = [.box [.vec tN ns], .sl 0 tI (incs (usesAt ns i) ((kids k a b).take j))] by
              rw [usesAt_succ hlt, hy, hall]; rfl] at this
            exact this
    · have : i = ns.length := by omega
      subst this
      simp only [d_nlt hlt, cond_false]
      rw [u1, i64_of (n := (ns.length : Int) - 1) (by omega) (by omega), show ((ns.length : Int) - 1).toNat = ns.length - 1 by omega]
      have hl : ns.length - 1 < (usesAt ns ns.length).length := by rw [u1]; omega
      have h0 := u3 (ns.length - 1) _ (by omega) (get_lt hl)
      rw [u1] at hl
      simp only [d_t (show (0 : Int) ≤ (ns.length : Int) - 1 by omega), blt_t hl, Bool.and_self, cond_true]
      rw [get_lt (by rw [u1]; exact hl), h0]
      simp only [beq_self_eq_true, cond_true, d_t (show (0 : Int) ≤ 0 by decide), d_t (show (ns.length : Int) - 1 ≤ (ns.length : Int) by omega), Bool.and_self, List.drop_zero]
      rw [all_one, ← valid_last hin hi.2]
      exact h

/-! spec.l02Count -/
noncomputable def c_spec_l02Count : Ctx := mkC Try.prog tyT [] [] [] 21 (fun _ => none) 0
theorem w_spec_l02Count (k : Int) (K : V → Heap → Prop) : wpFn c_spec_l02Count Try.f129 (encAs [.cell tI] (k, ())) [] K =
  cond (k == 0)
    (cond (k == 0)
      (K (.int .i64 1) [])
      (cond (k == 2)
        (cond (k == 2)
          (K (.int .i64 2) [])
          (cond (k == 1)
            (cond (k == 1)
              (K (.int .i64 3) [])
              (cond (k == 4)
                (K (.int .i64 4) [])
                (K (.int .i64 0) [])))
            (cond (k == 9)
              (cond (k == 9)
                (K (.int .i64 3) [])
                (cond (k == 4)
                  (K (.int .i64 4) [])
                  (K (.int .i64 0) [])))
              (cond (k == 11)
                (K (.int .i64 3) [])
                (cond (k == 4)
                  (K (.int .i64 4) [])
                  (K (.int .i64 0) []))))))
        (cond (k == 3)
          (K (.int .i64 2) [])
          (cond (k == 1)
            (cond (k == 1)
              (K (.int .i64 3) [])
              (cond (k == 4)
                (K (.int .i64 4) [])
                (K (.int .i64 0) [])))
            (cond (k == 9)
              (cond (k == 9)
                (K (.int .i64 3) [])
                (cond (k == 4)
                  (K (.int .i64 4) [])
                  (K (.int .i64 0) [])))
              (cond (k == 11)
                (K (.int .i64 3) [])
                (cond (k == 4)
                  (K (.int .i64 4) [])
                  (K (.int .i64 0) []))))))))
    (cond (k == 8)
      (cond (k == 8)
        (K (.int .i64 1) [])
        (cond (k == 2)
          (cond (k == 2)
            (K (.int .i64 2) [])
            (cond (k == 1)
              (cond (k == 1)
                (K (.int .i64 3) [])
                (cond (k == 4)
                  (K (.int .i64 4) [])
                  (K (.int .i64 0) [])))
              (cond (k == 9)
                (cond (k == 9)
                  (K (.int .i64 3) [])
                  (cond (k == 4)
                    (K (.int .i64 4) [])
                    (K (.int .i64 0) [])))
                (cond (k == 11)
                  (K (.int .i64 3) [])
                  (cond (k == 4)
                    (K (.int .i64 4) [])
                    (K (.int .i64 0) []))))))
          (cond (k == 3)
            (K (.int .i64 2) [])
            (cond (k == 1)
              (cond (k == 1)
                (K (.int .i64 3) [])
                (cond (k == 4)
                  (K (.int .i64 4) [])
                  (K (.int .i64 0) [])))
              (cond (k == 9)
                (cond (k == 9)
                  (K (.int .i64 3) [])
                  (cond (k == 4)
                    (K (.int .i64 4) [])
                    (K (.int .i64 0) [])))
                (cond (k == 11)
                  (K (.int .i64 3) [])
                  (cond (k == 4)
                    (K (.int .i64 4) [])
                    (K (.int .i64 0) []))))))))
      (cond (k == 10)
        (cond (k == 10)
          (K (.int .i64 1) [])
          (cond (k == 2)
            (cond (k == 2)
              (K (.int .i64 2) [])
              (cond (k == 1)
                (cond (k == 1)
                  (K (.int .i64 3) [])
                  (cond (k == 4)
                    (K (.int .i64 4) [])
                    (K (.int .i64 0) [])))
                (cond (k == 9)
                  (cond (k == 9)
                    (K (.int .i64 3) [])
                    (cond (k == 4)
                      (K (.int .i64 4) [])
                      (K (.int .i64 0) [])))
                  (cond (k == 11)
                    (K (.int .i64 3) [])
                    (cond (k == 4)
                      (K (.int .i64 4) [])
                      (K (.int .i64 0) []))))))
            (cond (k == 3)
              (K (.int .i64 2) [])
              (cond (k == 1)
                (cond (k == 1)
                  (K (.int .i64 3) [])
                  (cond (k == 4)
                    (K (.int .i64 4) [])
                    (K (.int .i64 0) [])))
                (cond (k == 9)
                  (cond (k == 9)
                    (K (.int .i64 3) [])
                    (cond (k == 4)
                      (K (.int .i64 4) [])
                      (K (.int .i64 0) [])))
                  (cond (k == 11)
                    (K (.int .i64 3) [])
                    (cond (k == 4)
                      (K (.int .i64 4) [])
                      (K (.int .i64 0) []))))))))
        (cond (k == 12)
          (cond (k == 12)
            (K (.int .i64 1) [])
            (cond (k == 2)
              (cond (k == 2)
                (K (.int .i64 2) [])
                (cond (k == 1)
                  (cond (k == 1)
                    (K (.int .i64 3) [])
                    (cond (k == 4)
                      (K (.int .i64 4) [])
                      (K (.int .i64 0) [])))
                  (cond (k == 9)
                    (cond (k == 9)
                      (K (.int .i64 3) [])
                      (cond (k == 4)
                        (K (.int .i64 4) [])
                        (K (.int .i64 0) [])))
                    (cond (k == 11)
                      (K (.int .i64 3) [])
                      (cond (k == 4)
                        (K (.int .i64 4) [])
                        (K (.int .i64 0) []))))))
              (cond (k == 3)
                (K (.int .i64 2) [])
                (cond (k == 1)
                  (cond (k == 1)
                    (K (.int .i64 3) [])
                    (cond (k == 4)
                      (K (.int .i64 4) [])
                      (K (.int .i64 0) [])))
                  (cond (k == 9)
                    (cond (k == 9)
                      (K (.int .i64 3) [])
                      (cond (k == 4)
                        (K (.int .i64 4) [])
                        (K (.int .i64 0) [])))
                    (cond (k == 11)
                      (K (.int .i64 3) [])
                      (cond (k == 4)
                        (K (.int .i64 4) [])
                        (K (.int .i64 0) []))))))))
          (cond (k == 14)
            (cond (k == 14)
              (K (.int .i64 1) [])
              (cond (k == 2)
                (cond (k == 2)
                  (K (.int .i64 2) [])
                  (cond (k == 1)
                    (cond (k == 1)
                      (K (.int .i64 3) [])
                      (cond (k == 4)
                        (K (.int .i64 4) [])
                        (K (.int .i64 0) [])))
                    (cond (k == 9)
                      (cond (k == 9)
                        (K (.int .i64 3) [])
                        (cond (k == 4)
                          (K (.int .i64 4) [])
                          (K (.int .i64 0) [])))
                      (cond (k == 11)
                        (K (.int .i64 3) [])
                        (cond (k == 4)
                          (K (.int .i64 4) [])
                          (K (.int .i64 0) []))))))
                (cond (k == 3)
                  (K (.int .i64 2) [])
                  (cond (k == 1)
                    (cond (k == 1)
                      (K (.int .i64 3) [])
                      (cond (k == 4)
                        (K (.int .i64 4) [])
                        (K (.int .i64 0) [])))
                    (cond (k == 9)
                      (cond (k == 9)
                        (K (.int .i64 3) [])
                        (cond (k == 4)
                          (K (.int .i64 4) [])
                          (K (.int .i64 0) [])))
                      (cond (k == 11)
                        (K (.int .i64 3) [])
                        (cond (k == 4)
                          (K (.int .i64 4) [])
                          (K (.int .i64 0) []))))))))
            (cond (k == 15)
              (cond (k == 15)
                (K (.int .i64 1) [])
                (cond (k == 2)
                  (cond (k == 2)
                    (K (.int .i64 2) [])
                    (cond (k == 1)
                      (cond (k == 1)
                        (K (.int .i64 3) [])
                        (cond (k == 4)
                          (K (.int .i64 4) [])
                          (K (.int .i64 0) [])))
                      (cond (k == 9)
                        (cond (k == 9)
                          (K (.int .i64 3) [])
                          (cond (k == 4)
                            (K (.int .i64 4) [])
                            (K (.int .i64 0) [])))
                        (cond (k == 11)
                          (K (.int .i64 3) [])
                          (cond (k == 4)
                            (K (.int .i64 4) [])
                            (K (.int .i64 0) []))))))
                  (cond (k == 3)
                    (K (.int .i64 2) [])
                    (cond (k == 1)
                      (cond (k == 1)
                        (K (.int .i64 3) [])
                        (cond (k == 4)
                          (K (.int .i64 4) [])
                          (K (.int .i64 0) [])))
                      (cond (k == 9)
                        (cond (k == 9)
                          (K (.int .i64 3) [])
                          (cond (k == 4)
                            (K (.int .i64 4) [])
                            (K (.int .i64 0) [])))
                        (cond (k == 11)
                          (K (.int .i64 3) [])
                          (cond (k == 4)
                            (K (.int .i64 4) [])
                            (K (.int .i64 0) []))))))))
              (cond (k == 16)
                (K (.int .i64 1) [])
                (cond (k == 2)
                  (cond (k == 2)
                    (K (.int .i64 2) [])
                    (cond (k == 1)
                      (cond (k == 1)
                        (K (.int .i64 3) [])
                        (cond (k == 4)
                          (K (.int .i64 4) [])
                          (K (.int .i64 0) [])))
                      (cond (k == 9)
                        (cond (k == 9)
                          (K (.int .i64 3) [])
                          (cond (k == 4)
                            (K (.int .i64 4) [])
                            (K (.int .i64 0) [])))
                        (cond (k == 11)
                          (K (.int .i64 3) [])
                          (cond (k == 4)
                            (K (.int .i64 4) [])
                            (K (.int .i64 0) []))))))
                  (cond (k == 3)
                    (K (.int .i64 2) [])
                    (cond (k == 1)
                      (cond (k == 1)
                        (K (.int .i64 3) [])
                        (cond (k == 4)
                          (K (.int .i64 4) [])
                          (K (.int .i64 0) [])))
                      (cond (k == 9)
                        (cond (k == 9)
                          (K (.int .i64 3) [])
                          (cond (k == 4)
                            (K (.int .i64 4) [])
                            (K (.int .i64 0) [])))
                        (cond (k == 11)
                          (K (.int .i64 3) [])
                          (cond (k == 4)
                            (K (.int .i64 4) [])
                            (K (.int .i64 0) []))))))))))))) := by kernel_rfl
noncomputable def s_spec_l02Count : Sm := semT [.cell tI] fun x => match x with | (k, _) => .int .i64 (kindN k)
theorem ok_spec_l02Count : FnOk Try.prog 129 s_spec_l02Count := fnOk_typed (fnOk_runC (C := c_spec_l02Count) rfl mixed .nil .nil .nil Try.func129 (by kernel_rfl)) fun (x : ((Int) × Unit)) wf K h => by
  obtain ⟨k, ⟨⟩⟩ := x
  replace h : K (.int .i64 (kindN k)) [] := h
  rw [w_spec_l02Count k K]
  cases hk : isK k with
  | true =>
    rcases kinds hk with e | e | e | e | e | e | e | e | e | e | e | e | e | e | e | e | e <;> subst e <;> exact h
  | false =>
    simp only [kindN, kindC, kindA, kindS, kindV_no hk] at h
    simp only [isK_ne hk (j := 0) (by decide), isK_ne hk (j := 1) (by decide), isK_ne hk (j := 2) (by decide), isK_ne hk (j := 3) (by decide), isK_ne hk (j := 4) (by decide), isK_ne hk (j := 5) (by decide), isK_ne hk (j := 6) (by decide), isK_ne hk (j := 7) (by decide), isK_ne hk (j := 8) (by decide), isK_ne hk (j := 9) (by decide), isK_ne hk (j := 10) (by decide), isK_ne hk (j := 11) (by decide), isK_ne hk (j := 12) (by decide), isK_ne hk (j := 13) (by decide), isK_ne hk (j := 14) (by decide), isK_ne hk (j := 15) (by decide), isK_ne hk (j := 16) (by decide), cond_false]
    exact h

/-! spec.l02Leaf -/
/-! spec.l02Two -/
/-! spec.l02Axis -/
noncomputable def c_spec_l02Axis : Ctx := mkC Try.prog tyT [(169, s_spec_l00In)] [] [] 5 (fun _ => none) 0
theorem w_spec_l02Axis (k : Int) (K : V → Heap → Prop) : wpFn c_spec_l02Axis Try.f158 (encAs [.cell tI] (k, ())) [] K =
  K (.bool (inR k 12 14)) [] := by kernel_rfl
noncomputable def s_spec_l02Axis : Sm := semT [.cell tI] fun x => match x with | (k, _) => .bool (inR k 12 14)
theorem ok_spec_l02Axis : FnOk Try.prog 158 s_spec_l02Axis := fnOk_typed (fnOk_runC (C := c_spec_l02Axis) rfl mixed (.cons ok_spec_l00In .nil) .nil .nil Try.func158 (by kernel_rfl)) fun (x : ((Int) × Unit)) wf K h => by
  obtain ⟨k, ⟨⟩⟩ := x
  replace h : K (.bool (inR k 12 14)) [] := h
  rw [w_spec_l02Axis k K]
  exact h

/-! spec.l01Finite -/
end Go.Proofs.Ytfhpmcdbfebflaa

/- Shapes and lists of shapes, as the laws copy, count and compare them. -/
set_option linter.unusedVariables false
set_option linter.unusedSimpArgs false
set_option maxRecDepth 100000
namespace Go.Proofs.Ytfhpmcdbfebflaa
open Go.Ev

--B wNode NodeD → Nat
def wNode (n : NodeD) : Nat := n.2.2.2.length
abbrev tS : Ty := .slice tN
abbrev ShapeD := List NodeD
--B wShape ShapeD → Nat
def wShape (s : ShapeD) : Nat := wList wNode s











end Go.Proofs.Ytfhpmcdbfebflaa

/- Plain: shapes that are made by a stack of free nodes are valid. -/
set_option linter.unusedVariables false
set_option linter.unusedSimpArgs false
set_option maxRecDepth 100000
namespace Go.Proofs.Ytfhpmcdbfebflaa
open Go.Ev

/-! how often a node is a child -/
theorem inc1_get (u : List Int) (c : Int) (hc : 0 ≤ c) (p : Nat) (hp : p < u.length) : (inc1 u c)[p]? = some ((u[p]'hp) + (if c = (p : Int) then 1 else 0)) := by
  unfold inc1
  by_cases e : c = (p : Int)
  · subst e
    rw [Int.toNat_natCast, List.getElem?_set_self hp, List.getElem?_eq_getElem hp]
    simp
  · rw [List.getElem?_set_ne (by omega), List.getElem?_eq_getElem hp, if_neg e, Int.add_zero]
theorem inc1_len (u : List Int) (c : Int) : (inc1 u c).length = u.length := by unfold inc1; exact List.length_set
theorem incs_len : ∀ (cs : List Int) (u : List Int), (incs u cs).length = u.length
  | [], _ => rfl
  | c :: cs, u => (incs_len cs (inc1 u c)).trans (inc1_len u c)
theorem incs_get : ∀ (cs : List Int) (u : List Int), (∀ c ∈ cs, 0 ≤ c) → ∀ (p : Nat) (hp : p < u.length), (incs u cs)[p]? = some ((u[p]'hp) + (cs.count (p : Int) : Nat))
  | [], u, _, p, hp => by
    show u[p]? = _
    rw [List.getElem?_eq_getElem hp]
    simp
  | c :: cs, u, h, p, hp => by
    have hp' : p < (inc1 u c).length := by rw [inc1_len]; exact hp
    have h1 := inc1_get u c (h c (by simp)) p hp
    have h2 := incs_get cs (inc1 u c) (fun c' hc' => h c' (by simp [hc'])) p hp'
    show (incs (inc1 u c) cs)[p]? = _
    rw [h2]
    congr 1
    have h3 : (inc1 u c)[p]'hp' = (u[p]'hp) + (if c = (p : Int) then 1 else 0) := by
      have := inc1_get u c (h c (by simp)) p hp
      rw [List.getElem?_eq_getElem hp'] at this
      exact Option.some.inj this
    rw [h3, List.count_cons]
    by_cases e : c = (p : Int)
    · rw [if_pos e, e, beq_self_eq_true, if_pos rfl]; omega
    · rw [if_neg e, beq_eq_false_iff_ne.2 e, if_neg (by decide)]; omega
theorem uses_len (ns : List NodeD) (u : List Int) : (usesOf ns u).length = u.length := by
  unfold usesOf
  induction ns generalizing u with
  | nil => rfl
  | cons n r ih => rw [List.foldl_cons, ih, incs_len]
theorem uses_get (ns : List NodeD) : ∀ (u : List Int), (∀ n ∈ ns, ∀ c ∈ kidsN n, 0 ≤ c) → ∀ (p : Nat) (hp : p < u.length), (usesOf ns u)[p]? = some ((u[p]'hp) + ((ns.flatMap kidsN).count (p : Int) : Nat)) := by
  induction ns with
  | nil =>
    intro u _ p hp
    show u[p]? = _
    rw [List.getElem?_eq_getElem hp]
    simp
  | cons n r ih =>
    intro u h p hp
    have hp' : p < (incs u (kidsN n)).length := by rw [incs_len]; exact hp
    have h1 := incs_get (kidsN n) u (h n (by simp)) p hp
    have h2 := ih (incs u (kidsN n)) (fun m hm => h m (by simp [hm])) p hp'
    show (usesOf r (incs u (kidsN n)))[p]? = _
    rw [h2]
    rw [List.getElem?_eq_getElem hp'] at h1
    rw [Option.some.inj h1, List.flatMap_cons, List.count_append]
    congr 1
    omega

/-! nodes and the free ones among them -/
def upTo (n : Nat) : List Int := (List.range n).map Int.ofNat
theorem upTo_mem {n : Nat} {x : Int} (h : x ∈ upTo n) : 0 ≤ x ∧ x < n := by
  unfold upTo at h
  obtain ⟨i, hi, rfl⟩ := List.mem_map.1 h
  have := List.mem_range.1 hi
  exact ⟨Int.natCast_nonneg i, by show (i : Int) < n; omega⟩
theorem upTo_succ (n : Nat) : upTo (n + 1) = upTo n ++ [(n : Int)] := by
  unfold upTo
  rw [List.range_succ, List.map_append]
  rfl
theorem upTo_count (n p : Nat) (h : p < n) : (upTo n).count (p : Int) = 1 := by
  induction n with
  | zero => omega
  | succ n ih =>
    rw [upTo_succ, List.count_append, List.count_cons, List.count_nil]
    by_cases e : p = n
    · subst e
      have : (upTo p).count (p : Int) = 0 := List.count_eq_zero.2 fun hm => by have := upTo_mem hm; omega
      rw [this, beq_self_eq_true, if_pos rfl]
    · rw [ih (by omega), beq_eq_false_iff_ne.2 (by omega), if_neg (by decide)]
structure Stack (ns : List NodeD) (fr : List Int) : Prop where
  nodes : ∀ (j : Nat) (n : NodeD), ns[j]? = some n → nodeB j n = true
  perm : (ns.flatMap kidsN ++ fr).Perm (upTo ns.length)
  last : ns ≠ [] → fr.getLast? = some ((ns.length : Int) - 1)
theorem stack_nil : Stack [] [] := ⟨fun j n h => by simp at h, by simp [upTo], fun h => absurd rfl h⟩
theorem Stack.free {ns : List NodeD} {fr : List Int} (h : Stack ns fr) : ∀ c ∈ fr, 0 ≤ c ∧ c < ns.length := fun c hc =>
  upTo_mem (h.perm.subset (List.mem_append_right _ hc))
theorem Stack.kids {ns : List NodeD} {fr : List Int} (h : Stack ns fr) : ∀ n ∈ ns, ∀ c ∈ kidsN n, 0 ≤ c := fun n hn c hc =>
  (upTo_mem (h.perm.subset (List.mem_append_left _ (List.mem_flatMap.2 ⟨n, hn, hc⟩)))).1
theorem Stack.len {ns : List NodeD} {fr : List Int} (h : Stack ns fr) : fr.length ≤ ns.length := by
  have := h.perm.length_eq
  rw [List.length_append] at this
  unfold upTo at this
  rw [List.length_map, List.length_range] at this
  omega
theorem Stack.push {ns : List NodeD} {fr rest : List Int} (h : Stack ns fr) {n : NodeD} (hf : fr = rest ++ kidsN n) (hn : nodeB ns.length n = true) : Stack (ns ++ [n]) (rest ++ [(ns.length : Int)]) := by
  refine ⟨fun j m hj => ?_, ?_, fun _ => by simp⟩
  · rcases Nat.lt_or_ge j ns.length with hl | hl
    · rw [List.getElem?_append_left hl] at hj
      exact h.nodes j m hj
    · rw [List.getElem?_append_right hl] at hj
      have hj0 := lt_of_get hj
      simp only [List.length_singleton] at hj0
      have : j = ns.length := by omega
      subst this
      rw [Nat.sub_self] at hj
      cases hj
      exact hn
  · have hp := h.perm
    rw [hf] at hp
    rw [List.length_append, List.length_singleton, upTo_succ, List.flatMap_append, List.flatMap_singleton]
    refine List.Perm.trans ?_ (hp.append_right _)
    rw [List.append_assoc, List.append_assoc]
    refine List.Perm.append_left _ ?_
    rw [← List.append_assoc]
    exact List.Perm.append_right _ List.perm_append_comm
theorem Stack.valid {ns : List NodeD} {r : Int} (h : Stack ns [r]) (h1 : 1 ≤ ns.length) (h2 : ns.length ≤ 16) : validS ns = true := by
  have hr : r = (ns.length : Int) - 1 := by
    have := h.last (fun e => by rw [e] at h1; simp at h1)
    simpa using this
  unfold validS
  simp only [Bool.and_eq_true]
  refine ⟨inR_iff.2 (by omega), ?_, ?_⟩
  · exact okUp_all fun j n _ hj => h.nodes j n hj
  · refine List.all_eq_true.2 fun x hx => ?_
    obtain ⟨p, hp, rfl⟩ := List.mem_iff_getElem.1 hx
    have hul : (usesAt ns ns.length).length = ns.length := by
      unfold usesAt
      rw [uses_len, List.length_replicate]
    rw [List.length_take, hul] at hp
    rw [List.getElem_take]
    have hu := uses_get ns (List.replicate ns.length 0) h.kids p (by rw [List.length_replicate]; omega)
    have e0 : usesAt ns ns.length = usesOf ns (List.replicate ns.length 0) := by unfold usesAt; rw [List.take_length]
    have hpp : p < (usesAt ns ns.length).length := by rw [hul]; omega
    have hc : (ns.flatMap kidsN ++ [r]).count (p : Int) = 1 := by rw [h.perm.count_eq]; exact upTo_count _ _ (by omega)
    rw [List.count_append, List.count_cons, List.count_nil, beq_eq_false_iff_ne.2 (by omega), if_neg (by decide)] at hc
    rw [← e0, List.getElem?_eq_getElem hpp] at hu
    rw [Option.some.inj hu, List.getElem_replicate]
    simp only [beq_iff_eq]
    omega

/-! the numbers of nodes -/
def quartV (n : Int) : Nat := fdiv .f32 (FloatKind.f32.nearest n) 1082130432
def sixtV (n : Int) : Nat := fdiv .f32 (FloatKind.f32.nearest n) 1098907648
--B sizeV Nat → Nat
def sizeV (x : Nat) : Nat := bif fle .f32 x 0 then fsub .f32 0 x else x
theorem tab_small : (List.range 33).all (fun j => finN (quartV (Int.ofNat j - 16)) && (finN (sizeV (quartV (Int.ofNat j - 16))) && !flt .f32 (sizeV (quartV (Int.ofNat j - 16))) 0)) = true := by decide +kernel
theorem tab_pos : (List.range 8).all (fun j => finN (quartV (1 + Int.ofNat j)) && !fle .f32 (quartV (1 + Int.ofNat j)) 0) = true := by decide +kernel
theorem tab_turn : (List.range 17).all (fun j => finN (sixtV (Int.ofNat j - 8))) = true := by decide +kernel
theorem small_fin {n : Int} (h : 0 ≤ n ∧ n < 33) : finN (quartV (n - 16)) = true ∧ finN (sizeV (quartV (n - 16))) = true ∧ flt .f32 (sizeV (quartV (n - 16))) 0 = false := by
  obtain ⟨m, rfl⟩ : ∃ m : Nat, n = Int.ofNat m := ⟨n.toNat, (Int.toNat_of_nonneg h.1).symm⟩
  have hm : m < 33 := by have h2 : (m : Int) < 33 := h.2; omega
  have := List.all_eq_true.1 tab_small m (List.mem_range.2 hm)
  simp only [Bool.and_eq_true, Bool.not_eq_true'] at this
  exact this
theorem pos_fin {n : Int} (h : 0 ≤ n ∧ n < 8) : finN (quartV (1 + n)) = true ∧ fle .f32 (quartV (1 + n)) 0 = false := by
  obtain ⟨m, rfl⟩ : ∃ m : Nat, n = Int.ofNat m := ⟨n.toNat, (Int.toNat_of_nonneg h.1).symm⟩
  have hm : m < 8 := by have h2 : (m : Int) < 8 := h.2; omega
  have := List.all_eq_true.1 tab_pos m (List.mem_range.2 hm)
  simp only [Bool.and_eq_true, Bool.not_eq_true'] at this
  exact this
theorem turn_fin {n : Int} (h : 0 ≤ n ∧ n < 17) : finN (sixtV (n - 8)) = true := by
  obtain ⟨m, rfl⟩ : ∃ m : Nat, n = Int.ofNat m := ⟨n.toNat, (Int.toNat_of_nonneg h.1).symm⟩
  have hm : m < 17 := by have h2 : (m : Int) < 17 := h.2; omega
  exact List.all_eq_true.1 tab_turn m (List.mem_range.2 hm)
/-- A number that a node of a kind may have. -/
def numB (k : Int) (x : Nat) : Bool := finN x && !sgnB (kindS k) x
theorem nums_of {k : Int} (hk : isK k = true) {xs : List Nat} (hl : (xs.length : Int) = kindN k) (h : ∀ x ∈ xs, numB k x = true) : numsB k xs = true := by
  unfold numsB
  rw [hk, hl, beq_self_eq_true, Bool.true_and, Bool.true_and]
  have h1 : xs.any (fun x => !finN x) = false := List.any_eq_false.2 fun x hx => by
    have := h x hx
    unfold numB at this
    simp only [Bool.and_eq_true] at this
    simp [this.1]
  have h2 : xs.any (fun x => sgnB (kindS k) x) = false := List.any_eq_false.2 fun x hx => by
    have := h x hx
    unfold numB at this
    simp only [Bool.and_eq_true, Bool.not_eq_true'] at this
    simp [this.2]
  rw [h1, h2]
  rfl

end Go.Proofs.Ytfhpmcdbfebflaa

/- Plain: what the laws draw: numbers, nodes, shapes, keys, things, scenes; all are valid. -/
set_option linter.unusedVariables false
set_option linter.unusedSimpArgs false
set_option maxRecDepth 100000
namespace Go.Proofs.Ytfhpmcdbfebflaa
open Go.Ev

/-! how far a source is read -/
--B inS Int → SrcD → Bool
def inS (n : Int) (s : SrcD) : Bool := decide (0 ≤ s.2.1) && decide (s.2.1 ≤ n)
theorem inS_iff {n : Int} {s : SrcD} : inS n s = true ↔ 0 ≤ s.2.1 ∧ s.2.1 ≤ n := by unfold inS; simp
theorem inS_src {n : Int} {s : SrcD} (h : inS n s = true) (hn : n ≤ 1152921504606846976) (L : Nat) (hL : 1 ≤ L) : srcIn L s = true := by
  rw [inS_iff] at h
  rw [srcIn_iff]
  have : (1152921504606846976 : Int) ≤ (L : Int) * 1152921504606846976 := by omega
  omega
structure Far (s t : SrcD) (n : Int) : Prop where
  b : t.1 = s.1
  lo : s.2.1 ≤ t.2.1
  hi : t.2.1 ≤ s.2.1 + n
theorem Far.refl (s : SrcD) : Far s s 0 := ⟨rfl, Int.le_refl _, by omega⟩
theorem Far.trans {s t u : SrcD} {n m : Int} (h : Far s t n) (h' : Far t u m) : Far s u (n + m) := ⟨h'.b.trans h.b, by have := h.lo; have := h'.lo; omega, by have := h.hi; have := h'.hi; omega⟩
theorem Far.mono {s t : SrcD} {n m : Int} (h : Far s t n) (hm : n ≤ m) : Far s t m := ⟨h.b, h.lo, by have := h.hi; omega⟩
theorem Far.ok {s t : SrcD} {n k m : Int} (h : Far s t n) (hs : inS k s = true) (hm : k + n ≤ m) : inS m t = true := by
  rw [inS_iff] at hs ⊢
  have := h.lo; have := h.hi; omega
theorem Far.bytes {s t : SrcD} {n : Int} (h : Far s t n) (hb : bytes s.1) : bytes t.1 := by rw [h.b]; exact hb
theorem far_pick (s : SrcD) (n : Int) : Far s (pickS s n) 2 := ⟨pickS_1 s n, (pickS_at s n).1, (pickS_at s n).2⟩

/-! numbers -/
--B smallV SrcD → Nat
def smallV (s : SrcD) : Nat := quartV (pickV s 33 - 16)
--B smallS SrcD → SrcD
def smallS (s : SrcD) : SrcD := pickS s 33
theorem far_small (s : SrcD) : Far s (smallS s) 2 := far_pick s 33
def sizeK (k : Int) : Bool := kindS k == 1
def posK (k : Int) : Bool := kindS k == 2
--B nuV Int → SrcD → Nat
def nuV (k : Int) (s : SrcD) : Nat := bif sizeK k then sizeV (smallV s) else bif posK k then quartV (1 + pickV (smallS s) 8) else bif k == 12 then sixtV (pickV (smallS s) 17 - 8) else smallV s
--B nuS Int → SrcD → SrcD
def nuS (k : Int) (s : SrcD) : SrcD := bif sizeK k then smallS s else bif posK k then pickS (smallS s) 8 else bif k == 12 then pickS (smallS s) 17 else smallS s
theorem far_nu (k : Int) (s : SrcD) : Far s (nuS k s) 4 := by
  unfold nuS
  cases sizeK k with
  | true => exact (far_small s).mono (by omega)
  | false =>
    cases posK k with
    | true => exact (far_small s).trans (far_pick _ 8)
    | false =>
      cases k == 12 with
      | true => exact (far_small s).trans (far_pick _ 17)
      | false => exact (far_small s).mono (by omega)
theorem nu_ok {k : Int} (hk : isK k = true) {s : SrcD} (hb : bytes s.1) : numB k (nuV k s) = true := by
  have b1 := (far_small s).bytes hb
  obtain ⟨a1, a2, a3⟩ := small_fin (pickV_range (s := s) hb (n := 33) (by omega))
  obtain ⟨p1, p2⟩ := pos_fin (pickV_range (s := smallS s) b1 (n := 8) (by omega))
  have t1 := turn_fin (pickV_range (s := smallS s) b1 (n := 17) (by omega))
  unfold numB nuV
  cases h1 : sizeK k with
  | true =>
    have e : kindS k = 1 := by unfold sizeK at h1; simpa using h1
    rw [cond_true, e]
    unfold sgnB smallV
    rw [a2, a3]
    rfl
  | false =>
    cases h2 : posK k with
    | true =>
      have e : kindS k = 2 := by unfold posK at h2; simpa using h2
      rw [cond_true, cond_false, e]
      unfold sgnB
      rw [p1, p2]
      rfl
    | false =>
      have hs : ∀ x, sgnB (kindS k) x = false := fun x => by
        unfold sgnB
        unfold sizeK at h1
        unfold posK at h2
        rw [h1, h2]
        rfl
      rw [hs, cond_false, cond_false]
      cases k == 12 with
      | true => rw [cond_true, t1]; rfl
      | false =>
        rw [cond_false]
        unfold smallV
        rw [a1]; rfl
def nusL : Int → Nat → SrcD → List Nat
  | _, 0, _ => []
  | k, n + 1, s => nuV k s :: nusL k n (nuS k s)
def nusN : Int → Nat → SrcD → SrcD
  | _, 0, s => s
  | k, n + 1, s => nusN k n (nuS k s)
--B numsV Int → SrcD → List Nat
def numsV (k : Int) (s : SrcD) : List Nat := nusL k (kindN k).toNat s
--B numsS Int → SrcD → SrcD
def numsS (k : Int) (s : SrcD) : SrcD := nusN k (kindN k).toNat s
theorem far_nus (k : Int) : ∀ (n : Nat) (s : SrcD), Far s (nusN k n s) (4 * n)
  | 0, s => (Far.refl s).mono (by omega)
  | n + 1, s => ((far_nu k s).trans (far_nus k n (nuS k s))).mono (by omega)
theorem nus_len (k : Int) : ∀ (n : Nat) (s : SrcD), (nusL k n s).length = n
  | 0, _ => rfl
  | n + 1, s => by rw [nusL, List.length_cons, nus_len k n]
theorem nus_ok {k : Int} (hk : isK k = true) : ∀ (n : Nat) {s : SrcD}, bytes s.1 → ∀ x ∈ nusL k n s, numB k x = true
  | 0, s, _, x, h => by cases h
  | n + 1, s, hb, x, h => by
    rw [nusL] at h
    rcases List.mem_cons.1 h with rfl | h
    · exact nu_ok hk hb
    · exact nus_ok hk n ((far_nu k s).bytes hb) x h
theorem kindN_ok (k : Int) : 0 ≤ kindN k ∧ kindN k ≤ 4 := by
  cases h : isK k with
  | false => unfold kindN; rw [kindV_no h]; decide
  | true =>
    rcases kinds h with r | r | r | r | r | r | r | r | r | r | r | r | r | r | r | r | r <;> subst r <;> decide
theorem far_nums (k : Int) (s : SrcD) : Far s (numsS k s) 16 := (far_nus k _ s).mono (by have := kindN_ok k; omega)
theorem nums_ok {k : Int} (hk : isK k = true) {s : SrcD} (hb : bytes s.1) : numsB k (numsV k s) = true := by
  have := kindN_ok k
  exact nums_of hk (by unfold numsV; rw [nus_len]; omega) (nus_ok hk _ hb)

/-! nodes -/
def dn2 (f : List Int) (s : SrcD) : Bool := decide (2 ≤ f.length) && pickV (pickS s 5) 2 == 0
def dnS1 (f : List Int) (s : SrcD) : SrcD := bif decide (2 ≤ f.length) then pickS (pickS s 5) 2 else pickS s 5
def dn1 (f : List Int) (s : SrcD) : Bool := decide (1 ≤ f.length) && pickV (dnS1 f s) 2 == 0
def dnS2 (f : List Int) (s : SrcD) : SrcD := bif decide (1 ≤ f.length) then pickS (dnS1 f s) 2 else dnS1 f s
def dnK (f : List Int) (s : SrcD) : Int := bif dn2 f s then 5 + pickV (dnS1 f s) 4 else bif dn1 f s then 9 + pickV (dnS2 f s) 8 else pickV s 5
def dnX (f : List Int) (s : SrcD) : Bool := inR (dnK f s) 12 14
def dnT (f : List Int) (s : SrcD) : SrcD := bif dn2 f s then pickS (dnS1 f s) 4 else bif dn1 f s then (bif dnX f s then pickS (pickS (dnS2 f s) 8) 3 else pickS (dnS2 f s) 8) else dnS2 f s
def at2 (f : List Int) (i : Nat) : Int := (f[f.length - i]?).getD 0
def dnA (f : List Int) (s : SrcD) : Int := bif dn2 f s then at2 f 2 else bif dn1 f s then at2 f 1 else 0
def dnB (f : List Int) (s : SrcD) : Int := bif dn2 f s then at2 f 1 else bif dn1 f s then (bif dnX f s then pickV (pickS (dnS2 f s) 8) 3 else 0) else 0
--B usedV List Int → SrcD → Int
def usedV (f : List Int) (s : SrcD) : Int := bif dn2 f s then 2 else bif dn1 f s then 1 else 0
--B nodeV List Int → SrcD → NodeD
def nodeV (f : List Int) (s : SrcD) : NodeD := (dnK f s, dnA f s, dnB f s, numsV (dnK f s) (dnT f s))
--B nodeS List Int → SrcD → SrcD
def nodeS (f : List Int) (s : SrcD) : SrcD := numsS (dnK f s) (dnT f s)
theorem far_S1 (f : List Int) (s : SrcD) : Far s (dnS1 f s) 4 := by
  unfold dnS1
  cases decide (2 ≤ f.length) with
  | true => exact (far_pick s 5).trans (far_pick _ 2)
  | false => exact (far_pick s 5).mono (by omega)
theorem far_S2 (f : List Int) (s : SrcD) : Far s (dnS2 f s) 6 := by
  unfold dnS2
  cases decide (1 ≤ f.length) with
  | true => exact (far_S1 f s).trans (far_pick _ 2)
  | false => exact (far_S1 f s).mono (by omega)
theorem far_T (f : List Int) (s : SrcD) : Far s (dnT f s) 10 := by
  unfold dnT
  cases dn2 f s with
  | true => exact ((far_S1 f s).trans (far_pick _ 4)).mono (by omega)
  | false =>
    cases dn1 f s with
    | true =>
      cases dnX f s with
      | true => exact ((far_S2 f s).trans (far_pick _ 8)).trans (far_pick _ 3)
      | false => exact ((far_S2 f s).trans (far_pick _ 8)).mono (by omega)
    | false => exact (far_S2 f s).mono (by omega)
theorem far_node (f : List Int) (s : SrcD) : Far s (nodeS f s) 26 := (far_T f s).trans (far_nums _ _)
theorem dnK_range (f : List Int) {s : SrcD} (hb : bytes s.1) : (dn2 f s = true → 5 ≤ dnK f s ∧ dnK f s ≤ 8) ∧ (dn2 f s = false → dn1 f s = true → 9 ≤ dnK f s ∧ dnK f s ≤ 16) ∧ (dn2 f s = false → dn1 f s = false → 0 ≤ dnK f s ∧ dnK f s ≤ 4) := by
  have r1 := pickV_range (s := dnS1 f s) ((far_S1 f s).bytes hb) (n := 4) (by omega)
  have r2 := pickV_range (s := dnS2 f s) ((far_S2 f s).bytes hb) (n := 8) (by omega)
  have r3 := pickV_range (s := s) hb (n := 5) (by omega)
  unfold dnK
  refine ⟨fun h => ?_, fun h h' => ?_, fun h h' => ?_⟩
  · rw [h, cond_true]; omega
  · rw [h, h', cond_true, cond_false]; omega
  · rw [h, h', cond_false, cond_false]; omega
theorem dnK_is (f : List Int) {s : SrcD} (hb : bytes s.1) : isK (dnK f s) = true := by
  obtain ⟨h1, h2, h3⟩ := dnK_range f hb
  refine inR_iff.2 ?_
  cases e : dn2 f s with
  | true => have := h1 e; omega
  | false =>
    cases e2 : dn1 f s with
    | true => have := h2 e e2; omega
    | false => have := h3 e e2; omega
theorem kinds_two : ∀ k : Int, 5 ≤ k ∧ k ≤ 8 → kindC k = 2 := fun k h => by
  have : k = 5 ∨ k = 6 ∨ k = 7 ∨ k = 8 := by omega
  rcases this with r | r | r | r <;> subst r <;> decide
theorem kinds_one : ∀ k : Int, 9 ≤ k ∧ k ≤ 16 → kindC k = 1 ∧ (inR k 12 14 = true → kindA k = true) := fun k h => by
  have : k = 9 ∨ k = 10 ∨ k = 11 ∨ k = 12 ∨ k = 13 ∨ k = 14 ∨ k = 15 ∨ k = 16 := by omega
  rcases this with r | r | r | r | r | r | r | r <;> subst r <;> decide
theorem kinds_leaf : ∀ k : Int, 0 ≤ k ∧ k ≤ 4 → kindC k = 0 := fun k h => by
  have : k = 0 ∨ k = 1 ∨ k = 2 ∨ k = 3 ∨ k = 4 := by omega
  rcases this with r | r | r | r | r <;> subst r <;> decide
theorem last2 (f : List Int) (h : 2 ≤ f.length) : f = f.take (f.length - 2) ++ [at2 f 2, at2 f 1] := by
  have h1 : f.length - 2 < f.length := by omega
  have h2 : f.length - 1 < f.length := by omega
  conv => lhs; rw [← List.take_append_drop (f.length - 2) f]
  rw [List.drop_eq_getElem_cons h1]
  have e : f.length - 2 + 1 = f.length - 1 := by omega
  rw [e, List.drop_eq_getElem_cons h2, List.drop_of_length_le (by omega)]
  unfold at2
  rw [get_lt h1, get_lt h2]
  rfl
theorem last1 (f : List Int) (h : 1 ≤ f.length) : f = f.take (f.length - 1) ++ [at2 f 1] := by
  have h2 : f.length - 1 < f.length := by omega
  conv => lhs; rw [← List.take_append_drop (f.length - 1) f]
  rw [List.drop_eq_getElem_cons h2, List.drop_of_length_le (by omega)]
  unfold at2
  rw [get_lt h2]
  rfl
theorem used_range (f : List Int) (s : SrcD) : 0 ≤ usedV f s ∧ usedV f s ≤ f.length := by
  unfold usedV dn2 dn1
  by_cases h2 : 2 ≤ f.length
  · cases pickV (pickS s 5) 2 == 0 <;> cases pickV (dnS1 f s) 2 == 0 <;> simp only [d_t h2, d_t (show 1 ≤ f.length by omega), Bool.and_true, Bool.and_false, cond_true, cond_false] <;> omega
  · by_cases h1 : 1 ≤ f.length
    · cases pickV (dnS1 f s) 2 == 0 <;> simp only [d_f h2, d_t h1, Bool.and_true, Bool.and_false, Bool.false_and, cond_true, cond_false] <;> omega
    · simp only [d_f h2, d_f h1, Bool.false_and, cond_false]; omega
theorem at2_mem (f : List Int) (i : Nat) (h1 : 1 ≤ i) (h : i ≤ f.length) : at2 f i ∈ f := by
  unfold at2
  rw [get_lt (show f.length - i < f.length by omega)]
  exact List.getElem_mem _
/-- A drawn node with the free ones that it takes. -/
theorem stack_node {ns : List NodeD} {f : List Int} (h : Stack ns f) {s : SrcD} (hb : bytes s.1) : Stack (ns ++ [nodeV f s]) (f.take ((f.length : Int) - usedV f s).toNat ++ [(ns.length : Int)]) := by
  obtain ⟨h1, h2, h3⟩ := dnK_range f hb
  have hk := dnK_is f hb
  have hn := nums_ok hk ((far_T f s).bytes hb)
  have kid : ∀ c ∈ f, inR c 0 ((ns.length : Int) - 1) = true := fun c hc => by
    have := h.free c hc
    exact inR_iff.2 (by omega)
  unfold usedV
  cases e : dn2 f s with
  | true =>
    have hl : 2 ≤ f.length := by unfold dn2 at e; simp only [Bool.and_eq_true, decide_eq_true_eq] at e; exact e.1
    have hc := kinds_two _ (h1 e)
    have hkid : kidsN (nodeV f s) = [at2 f 2, at2 f 1] := by
      show kids (dnK f s) (dnA f s) (dnB f s) = _
      unfold kids dnA dnB
      rw [hc, e]
      rfl
    have hsp := last2 f hl
    rw [cond_true, show ((f.length : Int) - 2).toNat = f.length - 2 by omega]
    refine h.push (by rw [hkid]; exact hsp) ?_
    unfold nodeB
    rw [hkid]
    show (numsB (dnK f s) (numsV (dnK f s) (dnT f s)) && (axB (dnK f s) (dnA f s) (dnB f s) && _)) = true
    rw [hn]
    unfold axB
    rw [hc]
    simp only [List.all_cons, List.all_nil, Bool.and_true, Bool.true_and]
    rw [kid _ (at2_mem f 2 (by omega) hl), kid _ (at2_mem f 1 (by omega) (by omega))]
    rfl
  | false =>
    cases e2 : dn1 f s with
    | true =>
      have hl : 1 ≤ f.length := by unfold dn1 at e2; simp only [Bool.and_eq_true, decide_eq_true_eq] at e2; exact e2.1
      obtain ⟨hc, hax⟩ := kinds_one _ (h2 e e2)
      have hkid : kidsN (nodeV f s) = [at2 f 1] := by
        show kids (dnK f s) (dnA f s) (dnB f s) = _
        unfold kids dnA
        rw [hc, e, e2]
        rfl
      have hsp := last1 f hl
      rw [cond_true, cond_false, show ((f.length : Int) - 1).toNat = f.length - 1 by omega]
      refine h.push (by rw [hkid]; exact hsp) ?_
      unfold nodeB
      rw [hkid]
      show (numsB (dnK f s) (numsV (dnK f s) (dnT f s)) && (axB (dnK f s) (dnA f s) (dnB f s) && _)) = true
      have hbx : axB (dnK f s) (dnA f s) (dnB f s) = true := by
        unfold axB
        rw [hc]
        unfold dnB
        rw [e, e2]
        simp only [cond_true, cond_false]
        cases ex : dnX f s with
        | true =>
          have r3 := pickV_range (s := pickS (dnS2 f s) 8) (((far_S2 f s).trans (far_pick _ 8)).bytes hb) (n := 3) (by omega)
          rw [cond_true, hax ex, inR_iff.2 (show 0 ≤ pickV (pickS (dnS2 f s) 8) 3 ∧ pickV (pickS (dnS2 f s) 8) 3 ≤ 2 by omega)]
          simp
        | false => rw [cond_false]; rfl
      rw [hn, hbx]
      simp only [List.all_cons, List.all_nil, Bool.and_true, Bool.true_and]
      exact kid _ (at2_mem f 1 (by omega) hl)
    | false =>
      have hc := kinds_leaf _ (h3 e e2)
      have hkid : kidsN (nodeV f s) = [] := by
        show kids (dnK f s) (dnA f s) (dnB f s) = _
        unfold kids
        rw [hc]
        rfl
      rw [cond_false, cond_false, show ((f.length : Int) - 0).toNat = f.length by omega, List.take_length]
      refine h.push (by rw [hkid, List.append_nil]) ?_
      unfold nodeB
      rw [hkid]
      show (numsB (dnK f s) (numsV (dnK f s) (dnT f s)) && (axB (dnK f s) (dnA f s) (dnB f s) && _)) = true
      have hbx : axB (dnK f s) (dnA f s) (dnB f s) = true := by
        unfold axB
        rw [hc]
        unfold dnA dnB
        rw [e, e2]
        rfl
      rw [hn, hbx]
      rfl

/-! shapes -/
abbrev ShD := List NodeD × List Int × SrcD
def shStep (q : ShD) : ShD := (q.1 ++ [nodeV q.2.1 q.2.2], q.2.1.take ((q.2.1.length : Int) - usedV q.2.1 q.2.2).toNat ++ [(q.1.length : Int)], nodeS q.2.1 q.2.2)
def shGo : Nat → ShD → ShD
  | 0, q => q
  | n + 1, q => shGo n (shStep q)
def clNode (q : ShD) : NodeD := (5 + pickV q.2.2 3, at2 q.2.1 2, at2 q.2.1 1, [])
def clStep (q : ShD) : ShD := (q.1 ++ [clNode q], q.2.1.take (q.2.1.length - 2) ++ [(q.1.length : Int)], pickS q.2.2 3)
def clGo : Nat → ShD → ShD
  | 0, q => q
  | n + 1, q => clGo n (clStep q)
def sh0 (s : SrcD) : ShD := ([], [], pickS s 7)
def sh1 (s : SrcD) : ShD := shGo (1 + pickV s 7).toNat (sh0 s)
def sh2 (s : SrcD) : ShD := clGo ((sh1 s).2.1.length - 1) (sh1 s)
--B shapeV SrcD → List NodeD
def shapeV (s : SrcD) : List NodeD := (sh2 s).1
--B shapeS SrcD → SrcD
def shapeS (s : SrcD) : SrcD := (sh2 s).2.2
structure ShOk (q : ShD) (n : Nat) : Prop where
  st : Stack q.1 q.2.1
  b : bytes q.2.2.1
  l : q.1.length = n
theorem shStep_ok {q : ShD} {n : Nat} (h : ShOk q n) : ShOk (shStep q) (n + 1) := ⟨stack_node h.st h.b, (far_node _ _).bytes h.b, by show (q.1 ++ [_]).length = _; rw [List.length_append, h.l]; rfl⟩
theorem clStep_ok {q : ShD} {n : Nat} (h : ShOk q n) (hf : 2 ≤ q.2.1.length) : ShOk (clStep q) (n + 1) := by
  refine ⟨?_, (far_pick _ _).bytes h.b, by show (q.1 ++ [_]).length = _; rw [List.length_append, h.l]; rfl⟩
  have r := pickV_range (s := q.2.2) h.b (n := 3) (by omega)
  have hc := kinds_two (5 + pickV q.2.2 3) (by omega)
  have hsp := last2 q.2.1 hf
  have hkid : kidsN (clNode q) = [at2 q.2.1 2, at2 q.2.1 1] := by
    show kids (5 + pickV q.2.2 3) _ _ = _
    unfold kids
    rw [hc]
    rfl
  have kid : ∀ c ∈ q.2.1, inR c 0 ((q.1.length : Int) - 1) = true := fun c hc => by
    have := h.st.free c hc
    exact inR_iff.2 (by omega)
  refine h.st.push (by rw [hkid]; exact hsp) ?_
  unfold nodeB
  rw [hkid]
  have hn : numsB (clNode q).1 (clNode q).2.2.2 = true := by
    have : 5 + pickV q.2.2 3 = 5 ∨ 5 + pickV q.2.2 3 = 6 ∨ 5 + pickV q.2.2 3 = 7 := by omega
    show numsB (5 + pickV q.2.2 3) [] = true
    rcases this with e | e | e <;> rw [e] <;> decide
  have hbx : axB (clNode q).1 (clNode q).2.1 (clNode q).2.2.1 = true := by
    show axB (5 + pickV q.2.2 3) _ _ = true
    unfold axB
    rw [hc]
    rfl
  rw [hn, hbx]
  simp only [List.all_cons, List.all_nil, Bool.and_true, Bool.true_and]
  rw [kid _ (at2_mem q.2.1 2 (by omega) hf), kid _ (at2_mem q.2.1 1 (by omega) (by omega))]
  rfl
theorem shGo_ok : ∀ (m : Nat) {q : ShD} {n : Nat}, ShOk q n → ShOk (shGo m q) (n + m)
  | 0, _, _, h => h
  | m + 1, q, n, h => by have := shGo_ok m (shStep_ok h); rw [show n + 1 + m = n + (m + 1) by omega] at this; exact this
theorem clStep_free (q : ShD) (hf : 2 ≤ q.2.1.length) : (clStep q).2.1.length = q.2.1.length - 1 := by
  show (q.2.1.take (q.2.1.length - 2) ++ [(q.1.length : Int)]).length = _
  rw [List.length_append, List.length_take, List.length_singleton]
  omega
theorem clGo_ok : ∀ (m : Nat) {q : ShD} {n : Nat}, ShOk q n → q.2.1.length = m + 1 → ShOk (clGo m q) (n + m) ∧ (clGo m q).2.1.length = 1
  | 0, _, _, h, e => ⟨h, e⟩
  | m + 1, q, n, h, e => by
    have := clGo_ok m (clStep_ok h (by omega)) (by rw [clStep_free q (by omega)]; omega)
    rw [show n + 1 + m = n + (m + 1) by omega] at this
    exact this
theorem sh0_ok {s : SrcD} (hb : bytes s.1) : ShOk (sh0 s) 0 := ⟨stack_nil, (far_pick s 7).bytes hb, rfl⟩
theorem sh1_ok {s : SrcD} (hb : bytes s.1) : ∃ n : Nat, (1 + pickV s 7) = (n : Int) ∧ 1 ≤ n ∧ n ≤ 7 ∧ ShOk (sh1 s) n ∧ 1 ≤ (sh1 s).2.1.length ∧ (sh1 s).2.1.length ≤ n := by
  have r := pickV_range (s := s) hb (n := 7) (by omega)
  refine ⟨(1 + pickV s 7).toNat, by omega, by omega, by omega, ?_, ?_, ?_⟩
  · have := shGo_ok (1 + pickV s 7).toNat (sh0_ok hb)
    rw [Nat.zero_add] at this
    exact this
  · have h := shGo_ok (1 + pickV s 7).toNat (sh0_ok hb)
    have hne : (sh1 s).1 ≠ [] := fun e => by
      have := h.l
      have e2 : (shGo (1 + pickV s 7).toNat (sh0 s)).1 = [] := e
      rw [e2] at this
      simp at this
      omega
    have := h.st.last hne
    show 1 ≤ (shGo (1 + pickV s 7).toNat (sh0 s)).2.1.length
    cases e : (shGo (1 + pickV s 7).toNat (sh0 s)).2.1 with
    | nil => rw [e] at this; simp at this
    | cons _ _ => simp
  · have h := shGo_ok (1 + pickV s 7).toNat (sh0_ok hb)
    have := h.st.len
    rw [h.l] at this
    show (shGo (1 + pickV s 7).toNat (sh0 s)).2.1.length ≤ _
    omega
theorem shape_ok {s : SrcD} (hb : bytes s.1) : validS (shapeV s) = true := by
  obtain ⟨n, e, n1, n2, h, f1, f2⟩ := sh1_ok hb
  obtain ⟨h2, h3⟩ := clGo_ok ((sh1 s).2.1.length - 1) h (by omega)
  obtain ⟨r, hr⟩ := List.length_eq_one_iff.1 h3
  have hs := h2.st
  rw [hr] at hs
  have hl := h2.l
  exact hs.valid (by omega) (by omega)
end Go.Proofs.Ytfhpmcdbfebflaa

/- What the laws draw: walks of shapes. -/
set_option linter.unusedVariables false
set_option linter.unusedSimpArgs false
set_option maxRecDepth 100000
namespace Go.Proofs.Ytfhpmcdbfebflaa
open Go.Ev

theorem cond_sh {b : Bool} {P Q : Prop} (h : b = true) (hp : P) : cond b P Q := by rw [h]; exact hp

/-! spec.l01DrawSmall -/
noncomputable def c_spec_l01DrawSmall : Ctx := mkC Try.prog tyT [] [] [(70, s_spec_l00Src_pick)] 8 (fun _ => none) 1
theorem w_spec_l01DrawSmall (s : SrcD) (K : V → Heap → Prop) : wpFnO c_spec_l01DrawSmall Try.f69 (.ptr 0 0 :: encAs [] ()) [.box (enc tSrc s)] K =
  cond (srcIn 6 s)
    (K (.float .f32 (fdiv FloatKind.f32 (FloatKind.nearest FloatKind.f32 (IntKind.wrap IntKind.i64 (pickV s 33 - 16))) 1082130432)) [(.box [(.vec (.int .u8) (Prod.fst (pickS s 33))), (.int .i64 (Prod.fst (Prod.snd (pickS s 33)))), (.int .u64 (Prod.snd (Prod.snd (pickS s 33))))])])
    (False) := by kernel_rfl
noncomputable def s_spec_l01DrawSmall : Sm := semP tSrc [] (fun s x => match x with | _ => inS 1000000 s) fun s x => match x with | _ => (.float .f32 (smallV s), smallS s)
theorem ok_spec_l01DrawSmall : FnOkL Try.prog 69 s_spec_l01DrawSmall := fnOkO_box (fnOkO_runC (C := c_spec_l01DrawSmall) rfl mixed .nil .nil (.cons ok_spec_l00Src_pick .nil) Try.func69 (by kernel_rfl)) fun (s : SrcD) (x : Unit) ws wf hg K h => by
  obtain ⟨⟩ := x
  replace hg : (inS 1000000 s) = true := hg
  replace h : K (.float .f32 (smallV s)) [.box (enc tSrc (smallS s))] := h
  rw [w_spec_l01DrawSmall s  K]
  have hb : bytes s.1 := bytes_of ws.1
  have r := pickV_range (s := s) hb (n := 33) (by omega)
  rw [inS_src hg (by omega) 6 (by omega), i64_of (n := pickV s 33 - 16) (by omega) (by omega)]
  exact h

/-! spec.l02Size -/
noncomputable def c_spec_l02Size : Ctx := mkC Try.prog tyT [] [] [] 8 (fun _ => none) 0
theorem w_spec_l02Size (x : Nat) (K : V → Heap → Prop) : wpFn c_spec_l02Size Try.f174 (encAs [.cell tF] (x, ())) [] K =
  cond (fle FloatKind.f32 x 0)
    (K (.float .f32 (fsub FloatKind.f32 0 x)) [])
    (K (.float .f32 (x)) []) := by kernel_rfl
noncomputable def s_spec_l02Size : Sm := semT [.cell tF] fun x => match x with | (x, _) => .float .f32 (sizeV x)
theorem ok_spec_l02Size : FnOk Try.prog 174 s_spec_l02Size := fnOk_typed (fnOk_runC (C := c_spec_l02Size) rfl mixed .nil .nil .nil Try.func174 (by kernel_rfl)) fun (x : ((Nat) × Unit)) wf K h => by
  obtain ⟨x, ⟨⟩⟩ := x
  replace h : K (.float .f32 (sizeV x)) [] := h
  rw [w_spec_l02Size x K]
  unfold sizeV at h
  revert h
  cases fle .f32 x 0 <;> exact id

/-! spec.l00Own -/
noncomputable def c_spec_l00Own : Ctx := mkC Try.prog tyT [] [] [] 6 (fun _ => none) 0
noncomputable def gp_spec_l00Own : List (List (Option Ty)) := List.map giveR [.cell (.own tI)]
theorem w_spec_l00Own (fs : List Int) (K : V → Heap → Prop) : wpFnG gp_spec_l00Own c_spec_l00Own Try.f134 (encAs [.cell (.slice tI)] (fs, ())) [] K =
  cond (decide ((0 + List.length fs) * 8 ≤ 140737488355328))
    (K (.obj 0 0) [(.sl 0 (.int .i64) ([] ++ fs))])
    (False) := by kernel_rfl
noncomputable def s_spec_l00Own : Sm := semV [.cell (.slice tI)] [.cell (.own tI)] (fun x => match x with | (fs, _) => decide (fs.length ≤ 1000)) fun x => match x with | (fs, _) => (fs, ())
theorem ok_spec_l00Own : FnOkL Try.prog 134 s_spec_l00Own := fnOkO_give (fnOkO_runG (C := c_spec_l00Own) gp_spec_l00Own rfl mixed .nil .nil .nil Try.func134 (by kernel_rfl)) rfl fun (x : ((List Int) × Unit)) wf hg K h => by
  obtain ⟨fs, ⟨⟩⟩ := x
  replace hg : (decide (fs.length ≤ 1000)) = true := hg
  replace h : K (tup (valRs [.cell (.own tI)] ((fs, ())) 0)) (thRs [.cell (.own tI)] ((fs, ()))) := h
  rw [w_spec_l00Own fs K]
  have hg := of_decide_eq_true hg
  exact cond_sh (decide_eq_true (by omega)) h

/-! spec.l02DrawNumbers -/
noncomputable def a_spec_l02DrawNumbers : Nat → Option Ann := fun n => bif Nat.beq n 3 then some ⟨[0,1,5,6],1,true⟩ else none
noncomputable def c_spec_l02DrawNumbers : Ctx := mkC Try.prog tyT [(174, s_spec_l02Size), (129, s_spec_l02Count)] [] [(69, s_spec_l01DrawSmall), (70, s_spec_l00Src_pick)] 48 a_spec_l02DrawNumbers 1
noncomputable def gp_spec_l02DrawNumbers : List (List (Option Ty)) := List.map giveR [.cell (.own tF)]
noncomputable def fr_spec_l02DrawNumbers_3 (s : SrcD) (k c : Int) (xs : List Nat) : Fr := [(0, .ptr 0 0), (1, .int .i64 k), (5, .obj 1 0), (6, .int .i64 c)]
noncomputable def hp_spec_l02DrawNumbers_3 (s : SrcD) (k c : Int) (xs : List Nat) : Heap := [.box (enc tSrc s), .sl 0 tF xs]
theorem r_spec_l02DrawNumbers_3 (s : SrcD) (k c : Int) (xs : List Nat) (Kn : Fr → Heap → Prop) (K : V → Heap → Prop) : round c_spec_l02DrawNumbers ⟨[0,1,5,6],1,true⟩ (lb c_spec_l02DrawNumbers 3 Try.f159) (fr_spec_l02DrawNumbers_3 s k c xs) (hp_spec_l02DrawNumbers_3 s k c xs) Kn (lkG gp_spec_l02DrawNumbers c_spec_l02DrawNumbers 3 Try.f159 [.box []] K) =
  cond (decide (c > 0))
    (cond (inS 1000000 s)
      (cond (k == 0)
        (cond (k == 0)
          (cond (decide ((List.length xs + 1) * 4 ≤ 140737488355328))
            (Kn [(0, (.ptr 0 0)), (1, (.int .i64 (k))), (5, (.obj 1 0)), (6, (.int .i64 (IntKind.wrap IntKind.i64 (c - 1))))] [(.box [(.vec (.int .u8) (Prod.fst (smallS s))), (.int .i64 (Prod.fst (Prod.snd (smallS s)))), (.int .u64 (Prod.snd (Prod.snd (smallS s))))]), (.sl 0 (.float .f32) (xs ++ [sizeV (smallV s)]))])
            (False))
          (cond (k == 8)
            (cond (k == 8)
              (cond (srcIn 6 (smallS s))
                (cond (decide ((List.length xs + 1) * 4 ≤ 140737488355328))
                  (Kn [(0, (.ptr 0 0)), (1, (.int .i64 (k))), (5, (.obj 1 0)), (6, (.int .i64 (IntKind.wrap IntKind.i64 (c - 1))))] [(.box [(.vec (.int .u8) (Prod.fst (pickS (smallS s) 8))), (.int .i64 (Prod.fst (Prod.snd (pickS (smallS s) 8)))), (.int .u64 (Prod.snd (Prod.snd (pickS (smallS s) 8))))]), (.sl 0 (.float .f32) (xs ++ [fdiv FloatKind.f32 (FloatKind.nearest FloatKind.f32 (IntKind.wrap IntKind.i64 (1 + pickV (smallS s) 8))) 1082130432]))])
                  (False))
                (False))
              (cond (k == 12)
                (cond (srcIn 6 (smallS s))
                  (cond (decide ((List.length xs + 1) * 4 ≤ 140737488355328))
                    (Kn [(0, (.ptr 0 0)), (1, (.int .i64 (k))), (5, (.obj 1 0)), (6, (.int .i64 (IntKind.wrap IntKind.i64 (c - 1))))] [(.box [(.vec (.int .u8) (Prod.fst (pickS (smallS s) 17))), (.int .i64 (Prod.fst (Prod.snd (pickS (smallS s) 17)))), (.int .u64 (Prod.snd (Prod.snd (pickS (smallS s) 17))))]), (.sl 0 (.float .f32) (xs ++ [fdiv FloatKind.f32 (FloatKind.nearest FloatKind.f32 (IntKind.wrap IntKind.i64 (pickV (smallS s) 17 - 8))) 1098907648]))])
                    (False))
                  (False))
                (cond (decide ((List.length xs + 1) * 4 ≤ 140737488355328))
                  (Kn [(0, (.ptr 0 0)), (1, (.int .i64 (k))), (5, (.obj 1 0)), (6, (.int .i64 (IntKind.wrap IntKind.i64 (c - 1))))] [(.box [(.vec (.int .u8) (Prod.fst (smallS s))), (.int .i64 (Prod.fst (Prod.snd (smallS s)))), (.int .u64 (Prod.snd (Prod.snd (smallS s))))]), (.sl 0 (.float .f32) (xs ++ [smallV s]))])
                  (False))))
            (cond (k == 10)
              (cond (k == 10)
                (cond (srcIn 6 (smallS s))
                  (cond (decide ((List.length xs + 1) * 4 ≤ 140737488355328))
                    (Kn [(0, (.ptr 0 0)), (1, (.int .i64 (k))), (5, (.obj 1 0)), (6, (.int .i64 (IntKind.wrap IntKind.i64 (c - 1))))] [(.box [(.vec (.int .u8) (Prod.fst (pickS (smallS s) 8))), (.int .i64 (Prod.fst (Prod.snd (pickS (smallS s) 8)))), (.int .u64 (Prod.snd (Prod.snd (pickS (smallS s) 8))))]), (.sl 0 (.float .f32) (xs ++ [fdiv FloatKind.f32 (FloatKind.nearest FloatKind.f32 (IntKind.wrap IntKind.i64 (1 + pickV (smallS s) 8))) 1082130432]))])
                    (False))
                  (False))
                (cond (k == 12)
                  (cond (srcIn 6 (smallS s))
                    (cond (decide ((List.length xs + 1) * 4 ≤ 140737488355328))
                      (Kn [(0, (.ptr 0 0)), (1, (.int .i64 (k))), (5, (.obj 1 0)), (6, (.int .i64 (IntKind.wrap IntKind.i64 (c - 1))))] [(.box [(.vec (.int .u8) (Prod.fst (pickS (smallS s) 17))), (.int .i64 (Prod.fst (Prod.snd (pickS (smallS s) 17)))), (.int .u64 (Prod.snd (Prod.snd (pickS (smallS s) 17))))]), (.sl 0 (.float .f32) (xs ++ [fdiv FloatKind.f32 (FloatKind.nearest FloatKind.f32 (IntKind.wrap IntKind.i64 (pickV (smallS s) 17 - 8))) 1098907648]))])
                      (False))
                    (False))
                  (cond (decide ((List.length xs + 1) * 4 ≤ 140737488355328))
                    (Kn [(0, (.ptr 0 0)), (1, (.int .i64 (k))), (5, (.obj 1 0)), (6, (.int .i64 (IntKind.wrap IntKind.i64 (c - 1))))] [(.box [(.vec (.int .u8) (Prod.fst (smallS s))), (.int .i64 (Prod.fst (Prod.snd (smallS s)))), (.int .u64 (Prod.snd (Prod.snd (smallS s))))]), (.sl 0 (.float .f32) (xs ++ [smallV s]))])
                    (False))))
              (cond (k == 11)
                (cond (k == 11)
                  (cond (srcIn 6 (smallS s))
                    (cond (decide ((List.length xs + 1) * 4 ≤ 140737488355328))
                      (Kn [(0, (.ptr 0 0)), (1, (.int .i64 (k))), (5, (.obj 1 0)), (6, (.int .i64 (IntKind.wrap IntKind.i64 (c - 1))))] [(.box [(.vec (.int .u8) (Prod.fst (pickS (smallS s) 8))), (.int .i64 (Prod.fst (Prod.snd (pickS (smallS s) 8)))), (.int .u64 (Prod.snd (Prod.snd (pickS (smallS s) 8))))]), (.sl 0 (.float .f32) (xs ++ [fdiv FloatKind.f32 (FloatKind.nearest FloatKind.f32 (IntKind.wrap IntKind.i64 (1 + pickV (smallS s) 8))) 1082130432]))])
                      (False))
                    (False))
                  (cond (k == 12)
                    (cond (srcIn 6 (smallS s))
                      (cond (decide ((List.length xs + 1) * 4 ≤ 140737488355328))
                        (Kn [(0, (.ptr 0 0)), (1, (.int .i64 (k))), (5, (.obj 1 0)), (6, (.int .i64 (IntKind.wrap IntKind.i64 (c - 1))))] [(.box [(.vec (.int .u8) (Prod.fst (pickS (smallS s) 17))), (.int .i64 (Prod.fst (Prod.snd (pickS (smallS s) 17)))), (.int .u64 (Prod.snd (Prod.snd (pickS (smallS s) 17))))]), (.sl 0 (.float .f32) (xs ++ [fdiv FloatKind.f32 (FloatKind.nearest FloatKind.f32 (IntKind.wrap IntKind.i64 (pickV (smallS s) 17 - 8))) 1098907648]))])
                        (False))
                      (False))
                    (cond (decide ((List.length xs + 1) * 4 ≤ 140737488355328))
                      (Kn [(0, (.ptr 0 0)), (1, (.int .i64 (k))), (5, (.obj 1 0)), (6, (.int .i64 (IntKind.wrap IntKind.i64 (c - 1))))] [(.box [(.vec (.int .u8) (Prod.fst (smallS s))), (.int .i64 (Prod.fst (Prod.snd (smallS s)))), (.int .u64 (Prod.snd (Prod.snd (smallS s))))]), (.sl 0 (.float .f32) (xs ++ [smallV s]))])
                      (False))))
                (cond (k == 14)
                  (cond (srcIn 6 (smallS s))
                    (cond (decide ((List.length xs + 1) * 4 ≤ 140737488355328))
                      (Kn [(0, (.ptr 0 0)), (1, (.int .i64 (k))), (5, (.obj 1 0)), (6, (.int .i64 (IntKind.wrap IntKind.i64 (c - 1))))] [(.box [(.vec (.int .u8) (Prod.fst (pickS (smallS s) 8))), (.int .i64 (Prod.fst (Prod.snd (pickS (smallS s) 8)))), (.int .u64 (Prod.snd (Prod.snd (pickS (smallS s) 8))))]), (.sl 0 (.float .f32) (xs ++ [fdiv FloatKind.f32 (FloatKind.nearest FloatKind.f32 (IntKind.wrap IntKind.i64 (1 + pickV (smallS s) 8))) 1082130432]))])
                      (False))
                    (False))
                  (cond (k == 12)
                    (cond (srcIn 6 (smallS s))
                      (cond (decide ((List.length xs + 1) * 4 ≤ 140737488355328))
                        (Kn [(0, (.ptr 0 0)), (1, (.int .i64 (k))), (5, (.obj 1 0)), (6, (.int .i64 (IntKind.wrap IntKind.i64 (c - 1))))] [(.box [(.vec (.int .u8) (Prod.fst (pickS (smallS s) 17))), (.int .i64 (Prod.fst (Prod.snd (pickS (smallS s) 17)))), (.int .u64 (Prod.snd (Prod.snd (pickS (smallS s) 17))))]), (.sl 0 (.float .f32) (xs ++ [fdiv FloatKind.f32 (FloatKind.nearest FloatKind.f32 (IntKind.wrap IntKind.i64 (pickV (smallS s) 17 - 8))) 1098907648]))])
                        (False))
                      (False))
                    (cond (decide ((List.length xs + 1) * 4 ≤ 140737488355328))
                      (Kn [(0, (.ptr 0 0)), (1, (.int .i64 (k))), (5, (.obj 1 0)), (6, (.int .i64 (IntKind.wrap IntKind.i64 (c - 1))))] [(.box [(.vec (.int .u8) (Prod.fst (smallS s))), (.int .i64 (Prod.fst (Prod.snd (smallS s)))), (.int .u64 (Prod.snd (Prod.snd (smallS s))))]), (.sl 0 (.float .f32) (xs ++ [smallV s]))])
                      (False))))))))
        (cond (k == 1)
          (cond (k == 1)
            (cond (decide ((List.length xs + 1) * 4 ≤ 140737488355328))
              (Kn [(0, (.ptr 0 0)), (1, (.int .i64 (k))), (5, (.obj 1 0)), (6, (.int .i64 (IntKind.wrap IntKind.i64 (c - 1))))] [(.box [(.vec (.int .u8) (Prod.fst (smallS s))), (.int .i64 (Prod.fst (Prod.snd (smallS s)))), (.int .u64 (Prod.snd (Prod.snd (smallS s))))]), (.sl 0 (.float .f32) (xs ++ [sizeV (smallV s)]))])
              (False))
            (cond (k == 8)
              (cond (k == 8)
                (cond (srcIn 6 (smallS s))
                  (cond (decide ((List.length xs + 1) * 4 ≤ 140737488355328))
                    (Kn [(0, (.ptr 0 0)), (1, (.int .i64 (k))), (5, (.obj 1 0)), (6, (.int .i64 (IntKind.wrap IntKind.i64 (c - 1))))] [(.box [(.vec (.int .u8) (Prod.fst (pickS (smallS s) 8))), (.int .i64 (Prod.fst (Prod.snd (pickS (smallS s) 8)))), (.int .u64 (Prod.snd (Prod.snd (pickS (smallS s) 8))))]), (.sl 0 (.float .f32) (xs ++ [fdiv FloatKind.f32 (FloatKind.nearest FloatKind.f32 (IntKind.wrap IntKind.i64 (1 + pickV (smallS s) 8))) 1082130432]))])
                    (False))
                  (False))
                (cond (k == 12)
                  (cond (srcIn 6 (smallS s))
                    (cond (decide ((List.length xs + 1) * 4 ≤ 140737488355328))
                      (Kn [(0, (.ptr 0 0)), (1, (.int .i64 (k))), (5, (.obj 1 0)), (6, (.int .i64 (IntKind.wrap IntKind.i64 (c - 1))))] [(.box [(.vec (.int .u8) (Prod.fst (pickS (smallS s) 17))), (.int .i64 (Prod.fst (Prod.snd (pickS (smallS s) 17)))), (.int .u64 (Prod.snd (Prod.snd (pickS (smallS s) 17))))]), (.sl 0 (.float .f32) (xs ++ [fdiv FloatKind.f32 (FloatKind.nearest FloatKind.f32 (IntKind.wrap IntKind.i64 (pickV (smallS s) 17 - 8))) 1098907648]))])
                      (False))
                    (False))
                  (cond (decide ((List.length xs + 1) * 4 ≤ 140737488355328))
                    (Kn [(0, (.ptr 0 0)), (1, (.int .i64 (k))), (5, (.obj 1 0)), (6, (.int .i64 (IntKind.wrap IntKind.i64 (c - 1))))] [(.box [(.vec (.int .u8) (Prod.fst (smallS s))), (.int .i64 (Prod.fst (Prod.snd (smallS s)))), (.int .u64 (Prod.snd (Prod.snd (smallS s))))]), (.sl 0 (.float .f32) (xs ++ [smallV s]))])
                    (False))))
              (cond (k == 10)
                (cond (k == 10)
                  (cond (srcIn 6 (smallS s))
                    (cond (decide ((List.length xs + 1) * 4 ≤ 140737488355328))
                      (Kn [(0, (.ptr 0 0)), (1, (.int .i64 (k))), (5, (.obj 1 0)), (6, (.int .i64 (IntKind.wrap IntKind.i64 (c - 1))))] [(.box [(.vec (.int .u8) (Prod.fst (pickS (smallS s) 8))), (.int .i64 (Prod.fst (Prod.snd (pickS (smallS s) 8)))), (.int .u64 (Prod.snd (Prod.snd (pickS (smallS s) 8))))]), (.sl 0 (.float .f32) (xs ++ [fdiv FloatKind.f32 (FloatKind.nearest FloatKind.f32 (IntKind.wrap IntKind.i64 (1 + pickV (smallS s) 8))) 1082130432]))])
                      (False))
                    (False))
                  (cond (k == 12)
                    (cond (srcIn 6 (smallS s))
                      (cond (decide ((List.length xs + 1) * 4 ≤ 140737488355328))
                        (Kn [(0, (.ptr 0 0)), (1, (.int .i64 (k))), (5, (.obj 1 0)), (6, (.int .i64 (IntKind.wrap IntKind.i64 (c - 1))))] [(.box [(.vec (.int .u8) (Prod.fst (pickS (smallS s) 17))), (.int .i64 (Prod.fst (Prod.snd (pickS (smallS s) 17)))), (.int .u64 (Prod.snd (Prod.snd (pickS (smallS s) 17))))]), (.sl 0 (.float .f32) (xs ++ [fdiv FloatKind.f32 (FloatKind.nearest FloatKind.f32 (IntKind.wrap IntKind.i64 (pickV (smallS s) 17 - 8))) 1098907648]))])
                        (False))
                      (False))
                    (cond (decide ((List.length xs + 1) * 4 ≤ 140737488355328))
                      (Kn [(0, (.ptr 0 0)), (1, (.int .i64 (k))), (5, (.obj 1 0)), (6, (.int .i64 (IntKind.wrap IntKind.i64 (c - 1))))] [(.box [(.vec (.int .u8) (Prod.fst (smallS s))), (.int .i64 (Prod.fst (Prod.snd (smallS s)))), (.int .u64 (Prod.snd (Prod.snd (smallS s))))]), (.sl 0 (.float .f32) (xs ++ [smallV s]))])
                      (False))))
                (cond (k == 11)
                  (cond (k == 11)
                    (cond (srcIn 6 (smallS s))
                      (cond (decide ((List.length xs + 1) * 4 ≤ 140737488355328))
                        (Kn [(0, (.ptr 0 0)), (1, (.int .i64 (k))), (5, (.obj 1 0)), (6, (.int .i64 (IntKind.wrap IntKind.i64 (c - 1))))] [(.box [(.vec (.int .u8) (Prod.fst (pickS (smallS s) 8))), (.int .i64 (Prod.fst (Prod.snd (pickS (smallS s) 8)))), (.int .u64 (Prod.snd (Prod.snd (pickS (smallS s) 8))))]), (.sl 0 (.float .f32) (xs ++ [fdiv FloatKind.f32 (FloatKind.nearest FloatKind.f32 (IntKind.wrap IntKind.i64 (1 + pickV (smallS s) 8))) 1082130432]))])
                        (False))
                      (False))
                    (cond (k == 12)
                      (cond (srcIn 6 (smallS s))
                        (cond (decide ((List.length xs + 1) * 4 ≤ 140737488355328))
                          (Kn [(0, (.ptr 0 0)), (1, (.int .i64 (k))), (5, (.obj 1 0)), (6, (.int .i64 (IntKind.wrap IntKind.i64 (c - 1))))] [(.box [(.vec (.int .u8) (Prod.fst (pickS (smallS s) 17))), (.int .i64 (Prod.fst (Prod.snd (pickS (smallS s) 17)))), (.int .u64 (Prod.snd (Prod.snd (pickS (smallS s) 17))))]), (.sl 0 (.float .f32) (xs ++ [fdiv FloatKind.f32 (FloatKind.nearest FloatKind.f32 (IntKind.wrap IntKind.i64 (pickV (smallS s) 17 - 8))) 1098907648]))])
                          (False))
                        (False))
                      (cond (decide ((List.length xs + 1) * 4 ≤ 140737488355328))
                        (Kn [(0, (.ptr 0 0)), (1, (.int .i64 (k))), (5, (.obj 1 0)), (6, (.int .i64 (IntKind.wrap IntKind.i64 (c - 1))))] [(.box [(.vec (.int .u8) (Prod.fst (smallS s))), (.int .i64 (Prod.fst (Prod.snd (smallS s)))), (.int .u64 (Prod.snd (Prod.snd (smallS s))))]), (.sl 0 (.float .f32) (xs ++ [smallV s]))])
                        (False))))
                  (cond (k == 14)
                    (cond (srcIn 6 (smallS s))
                      (cond (decide ((List.length xs + 1) * 4 ≤ 140737488355328))
                        (Kn [(0, (.ptr 0 0)), (1, (.int .i64 (k))), (5, (.obj 1 0)), (6, (.int .i64 (IntKind.wrap IntKind.i64 (c - 1))))] [(.box [(.vec (.int .u8) (Prod.fst (pickS (smallS s) 8))), (.int .i64 (Prod.fst (Prod.snd (pickS (smallS s) 8)))), (.int .u64 (Prod.snd (Prod.snd (pickS (smallS s) 8))))]), (.sl 0 (.float .f32) (xs ++ [fdiv FloatKind.f32 (FloatKind.nearest FloatKind.f32 (IntKind.wrap IntKind.i64 (1 + pickV (smallS s) 8))) 1082130432]))])
                        (False))
                      (False))
                    (cond (k == 12)
                      (cond (srcIn 6 (smallS s))
                        (cond (decide ((List.length xs + 1) * 4 ≤ 140737488355328))
                          (Kn [(0, (.ptr 0 0)), (1, (.int .i64 (k))), (5, (.obj 1 0)), (6, (.int .i64 (IntKind.wrap IntKind.i64 (c - 1))))] [(.box [(.vec (.int .u8) (Prod.fst (pickS (smallS s) 17))), (.int .i64 (Prod.fst (Prod.snd (pickS (smallS s) 17)))), (.int .u64 (Prod.snd (Prod.snd (pickS (smallS s) 17))))]), (.sl 0 (.float .f32) (xs ++ [fdiv FloatKind.f32 (FloatKind.nearest FloatKind.f32 (IntKind.wrap IntKind.i64 (pickV (smallS s) 17 - 8))) 1098907648]))])
                          (False))
                        (False))
                      (cond (decide ((List.length xs + 1) * 4 ≤ 140737488355328))
                        (Kn [(0, (.ptr 0 0)), (1, (.int .i64 (k))), (5, (.obj 1 0)), (6, (.int .i64 (IntKind.wrap IntKind.i64 (c - 1))))] [(.box [(.vec (.int .u8) (Prod.fst (smallS s))), (.int .i64 (Prod.fst (Prod.snd (smallS s)))), (.int .u64 (Prod.snd (Prod.snd (smallS s))))]), (.sl 0 (.float .f32) (xs ++ [smallV s]))])
                        (False))))))))
          (cond (k == 2)
            (cond (k == 2)
              (cond (decide ((List.length xs + 1) * 4 ≤ 140737488355328))
                (Kn [(0, (.ptr 0 0)), (1, (.int .i64 (k))), (5, (.obj 1 0)), (6, (.int .i64 (IntKind.wrap IntKind.i64 (c - 1))))] [(.box [(.vec (.int .u8) (Prod.fst (smallS s))), (.int .i64 (Prod.fst (Prod.snd (smallS s)))), (.int .u64 (Prod.snd (Prod.snd (smallS s))))]), (.sl 0 (.float .f32) (xs ++ [sizeV (smallV s)]))])
                (False))
              (cond (k == 8)
                (cond (k == 8)
                  (cond (srcIn 6 (smallS s))
                    (cond (decide ((List.length xs + 1) * 4 ≤ 140737488355328))
                      (Kn [(0, (.ptr 0 0)), (1, (.int .i64 (k))), (5, (.obj 1 0)), (6, (.int .i64 (IntKind.wrap IntKind.i64 (c - 1))))] [(.box [(.vec (.int .u8) (Prod.fst (pickS (smallS s) 8))), (.int .i64 (Prod.fst (Prod.snd (pickS (smallS s) 8)))), (.int .u64 (Prod.snd (Prod.snd (pickS (smallS s) 8))))]), (.sl 0 (.float .f32) (xs ++ [fdiv FloatKind.f32 (FloatKind.nearest FloatKind.f32 (IntKind.wrap IntKind.i64 (1 + pickV (smallS s) 8))) 1082130432]))])
                      (False))
                    (False))
                  (cond (k == 12)
                    (cond (srcIn 6 (smallS s))
                      (cond (decide ((List.length xs + 1) * 4 ≤ 140737488355328))
                        (Kn [(0, (.ptr 0 0)), (1, (.int .i64 (k))), (5, (.obj 1 0)), (6, (.int .i64 (IntKind.wrap IntKind.i64 (c - 1))))] [(.box [(.vec (.int .u8) (Prod.fst (pickS (smallS s) 17))), (.int .i64 (Prod.fst (Prod.snd (pickS (smallS s) 17)))), (.int .u64 (Prod.snd (Prod.snd (pickS (smallS s) 17))))]), (.sl 0 (.float .f32) (xs ++ [fdiv FloatKind.f32 (FloatKind.nearest FloatKind.f32 (IntKind.wrap IntKind.i64 (pickV (smallS s) 17 - 8))) 1098907648]))])
                        (False))
                      (False))
                    (cond (decide ((List.length xs + 1) * 4 ≤ 140737488355328))
                      (Kn [(0, (.ptr 0 0)), (1, (.int .i64 (k))), (5, (.obj 1 0)), (6, (.int .i64 (IntKind.wrap IntKind.i64 (c - 1))))] [(.box [(.vec (.int .u8) (Prod.fst (smallS s))), (.int .i64 (Prod.fst (Prod.snd (smallS s)))), (.int .u64 (Prod.snd (Prod.snd (smallS s))))]), (.sl 0 (.float .f32) (xs ++ [smallV s]))])
                      (False))))
                (cond (k == 10)
                  (cond (k == 10)
                    (cond (srcIn 6 (smallS s))
                      (cond (decide ((List.length xs + 1) * 4 ≤ 140737488355328))
                        (Kn [(0, (.ptr 0 0)), (1, (.int .i64 (k))), (5, (.obj 1 0)), (6, (.int .i64 (IntKind.wrap IntKind.i64 (c - 1))))] [(.box [(.vec (.int .u8) (Prod.fst (pickS (smallS s) 8))), (.int .i64 (Prod.fst (Prod.snd (pickS (smallS s) 8)))), (.int .u64 (Prod.snd (Prod.snd (pickS (smallS s) 8))))]), (.sl 0 (.float .f32) (xs ++ [fdiv FloatKind.f32 (FloatKind.nearest FloatKind.f32 (IntKind.wrap IntKind.i64 (1 + pickV (smallS s) 8))) 1082130432]))])
                        (False))
                      (False))
                    (cond (k == 12)
                      (cond (srcIn 6 (smallS s))
                        (cond (decide ((List.length xs + 1) * 4 ≤ 140737488355328))
                          (Kn [(0, (.ptr 0 0)), (1, (.int .i64 (k))), (5, (.obj 1 0)), (6, (.int .i64 (IntKind.wrap IntKind.i64 (c - 1))))] [(.box [(.vec (.int .u8) (Prod.fst (pickS (smallS s) 17))), (.int .i64 (Prod.fst (Prod.snd (pickS (smallS s) 17)))), (.int .u64 (Prod.snd (Prod.snd (pickS (smallS s) 17))))]), (.sl 0 (.float .f32) (xs ++ [fdiv FloatKind.f32 (FloatKind.nearest FloatKind.f32 (IntKind.wrap IntKind.i64 (pickV (smallS s) 17 - 8))) 1098907648]))])
                          (False))
                        (False))
                      (cond (decide ((List.length xs + 1) * 4 ≤ 140737488355328))
                        (Kn [(0, (.ptr 0 0)), (1, (.int .i64 (k))), (5, (.obj 1 0)), (6, (.int .i64 (IntKind.wrap IntKind.i64 (c - 1))))] [(.box [(.vec (.int .u8) (Prod.fst (smallS s))), (.int .i64 (Prod.fst (Prod.snd (smallS s)))), (.int .u64 (Prod.snd (Prod.snd (smallS s))))]), (.sl 0 (.float .f32) (xs ++ [smallV s]))])
                        (False))))
                  (cond (k == 11)
                    (cond (k == 11)
                      (cond (srcIn 6 (smallS s))
                        (cond (decide ((List.length xs + 1) * 4 ≤ 140737488355328))
                          (Kn [(0, (.ptr 0 0)), (1, (.int .i64 (k))), (5, (.obj 1 0)), (6, (.int .i64 (IntKind.wrap IntKind.i64 (c - 1))))] [(.box [(.vec (.int .u8) (Prod.fst (pickS (smallS s) 8))), (.int .i64 (Prod.fst (Prod.snd (pickS (smallS s) 8)))), (.int .u64 (Prod.snd (Prod.snd (pickS (smallS s) 8))))]), (.sl 0 (.float .f32) (xs ++ [fdiv FloatKind.f32 (FloatKind.nearest FloatKind.f32 (IntKind.wrap IntKind.i64 (1 + pickV (smallS s) 8))) 1082130432]))])
                          (False))
                        (False))
                      (cond (k == 12)
                        (cond (srcIn 6 (smallS s))
                          (cond (decide ((List.length xs + 1) * 4 ≤ 140737488355328))
                            (Kn [(0, (.ptr 0 0)), (1, (.int .i64 (k))), (5, (.obj 1 0)), (6, (.int .i64 (IntKind.wrap IntKind.i64 (c - 1))))] [(.box [(.vec (.int .u8) (Prod.fst (pickS (smallS s) 17))), (.int .i64 (Prod.fst (Prod.snd (pickS (smallS s) 17)))), (.int .u64 (Prod.snd (Prod.snd (pickS (smallS s) 17))))]), (.sl 0 (.float .f32) (xs ++ [fdiv FloatKind.f32 (FloatKind.nearest FloatKind.f32 (IntKind.wrap IntKind.i64 (pickV (smallS s) 17 - 8))) 1098907648]))])
                            (False))
                          (False))
                        (cond (decide ((List.length xs + 1) * 4 ≤ 140737488355328))
                          (Kn [(0, (.ptr 0 0)), (1, (.int .i64 (k))), (5, (.obj 1 0)), (6, (.int .i64 (IntKind.wrap IntKind.i64 (c - 1))))] [(.box [(.vec (.int .u8) (Prod.fst (smallS s))), (.int .i64 (Prod.fst (Prod.snd (smallS s)))), (.int .u64 (Prod.snd (Prod.snd (smallS s))))]), (.sl 0 (.float .f32) (xs ++ [smallV s]))])
                          (False))))
                    (cond (k == 14)
                      (cond (srcIn 6 (smallS s))
                        (cond (decide ((List.length xs + 1) * 4 ≤ 140737488355328))
                          (Kn [(0, (.ptr 0 0)), (1, (.int .i64 (k))), (5, (.obj 1 0)), (6, (.int .i64 (IntKind.wrap IntKind.i64 (c - 1))))] [(.box [(.vec (.int .u8) (Prod.fst (pickS (smallS s) 8))), (.int .i64 (Prod.fst (Prod.snd (pickS (smallS s) 8)))), (.int .u64 (Prod.snd (Prod.snd (pickS (smallS s) 8))))]), (.sl 0 (.float .f32) (xs ++ [fdiv FloatKind.f32 (FloatKind.nearest FloatKind.f32 (IntKind.wrap IntKind.i64 (1 + pickV (smallS s) 8))) 1082130432]))])
                          (False))
                        (False))
                      (cond (k == 12)
                        (cond (srcIn 6 (smallS s))
                          (cond (decide ((List.length xs + 1) * 4 ≤ 140737488355328))
                            (Kn [(0, (.ptr 0 0)), (1, (.int .i64 (k))), (5, (.obj 1 0)), (6, (.int .i64 (IntKind.wrap IntKind.i64 (c - 1))))] [(.box [(.vec (.int .u8) (Prod.fst (pickS (smallS s) 17))), (.int .i64 (Prod.fst (Prod.snd (pickS (smallS s) 17)))), (.int .u64 (Prod.snd (Prod.snd (pickS (smallS s) 17))))]), (.sl 0 (.float .f32) (xs ++ [fdiv FloatKind.f32 (FloatKind.nearest FloatKind.f32 (IntKind.wrap IntKind.i64 (pickV (smallS s) 17 - 8))) 1098907648]))])
                            (False))
                          (False))
                        (cond (decide ((List.length xs + 1) * 4 ≤ 140737488355328))
                          (Kn [(0, (.ptr 0 0)), (1, (.int .i64 (k))), (5, (.obj 1 0)), (6, (.int .i64 (IntKind.wrap IntKind.i64 (c - 1))))] [(.box [(.vec (.int .u8) (Prod.fst (smallS s))), (.int .i64 (Prod.fst (Prod.snd (smallS s)))), (.int .u64 (Prod.snd (Prod.snd (smallS s))))]), (.sl 0 (.float .f32) (xs ++ [smallV s]))])
                          (False))))))))
            (cond (k == 3)
              (cond (k == 3)
                (cond (decide ((List.length xs + 1) * 4 ≤ 140737488355328))
                  (Kn [(0, (.ptr 0 0)), (1, (.int .i64 (k))), (5, (.obj 1 0)), (6, (.int .i64 (IntKind.wrap IntKind.i64 (c - 1))))] [(.box [(.vec (.int .u8) (Prod.fst (smallS s))), (.int .i64 (Prod.fst (Prod.snd (smallS s)))), (.int .u64 (Prod.snd (Prod.snd (smallS s))))]), (.sl 0 (.float .f32) (xs ++ [sizeV (smallV s)]))])
                  (False))
                (cond (k == 8)
                  (cond (k == 8)
                    (cond (srcIn 6 (smallS s))
                      (cond (decide ((List.length xs + 1) * 4 ≤ 140737488355328))
                        (Kn [(0, (.ptr 0 0)), (1, (.int .i64 (k))), (5, (.obj 1 0)), (6, (.int .i64 (IntKind.wrap IntKind.i64 (c - 1))))] [(.box [(.vec (.int .u8) (Prod.fst (pickS (smallS s) 8))), (.int .i64 (Prod.fst (Prod.snd (pickS (smallS s) 8)))), (.int .u64 (Prod.snd (Prod.snd (pickS (smallS s) 8))))]), (.sl 0 (.float .f32) (xs ++ [fdiv FloatKind.f32 (FloatKind.nearest FloatKind.f32 (IntKind.wrap IntKind.i64 (1 + pickV (smallS s) 8))) 1082130432]))])
                        (False))
                      (False))
                    (cond (k == 12)
                      (cond (srcIn 6 (smallS s))
                        (cond (decide ((List.length xs + 1) * 4 ≤ 140737488355328))
                          (Kn [(0, (.ptr 0 0)), (1, (.int .i64 (k))), (5, (.obj 1 0)), (6, (.int .i64 (IntKind.wrap IntKind.i64 (c - 1))))] [(.box [(.vec (.int .u8) (Prod.fst (pickS (smallS s) 17))), (.int .i64 (Prod.fst (Prod.snd (pickS (smallS s) 17)))), (.int .u64 (Prod.snd (Prod.snd (pickS (smallS s) 17))))]), (.sl 0 (.float .f32) (xs ++ [fdiv FloatKind.f32 (FloatKind.nearest FloatKind.f32 (IntKind.wrap IntKind.i64 (pickV (smallS s) 17 - 8))) 1098907648]))])
                          (False))
                        (False))
                      (cond (decide ((List.length xs + 1) * 4 ≤ 140737488355328))
                        (Kn [(0, (.ptr 0 0)), (1, (.int .i64 (k))), (5, (.obj 1 0)), (6, (.int .i64 (IntKind.wrap IntKind.i64 (c - 1))))] [(.box [(.vec (.int .u8) (Prod.fst (smallS s))), (.int .i64 (Prod.fst (Prod.snd (smallS s)))), (.int .u64 (Prod.snd (Prod.snd (smallS s))))]), (.sl 0 (.float .f32) (xs ++ [smallV s]))])
                        (False))))
                  (cond (k == 10)
                    (cond (k == 10)
                      (cond (srcIn 6 (smallS s))
                        (cond (decide ((List.length xs + 1) * 4 ≤ 140737488355328))
                          (Kn [(0, (.ptr 0 0)), (1, (.int .i64 (k))), (5, (.obj 1 0)), (6, (.int .i64 (IntKind.wrap IntKind.i64 (c - 1))))] [(.box [(.vec (.int .u8) (Prod.fst (pickS (smallS s) 8))), (.int .i64 (Prod.fst (Prod.snd (pickS (smallS s) 8)))), (.int .u64 (Prod.snd (Prod.snd (pickS (smallS s) 8))))]), (.sl 0 (.float .f32) (xs ++ [fdiv FloatKind.f32 (FloatKind.nearest FloatKind.f32 (IntKind.wrap IntKind.i64 (1 + pickV (smallS s) 8))) 1082130432]))])
                          (False))
                        (False))
                      (cond (k == 12)
                        (cond (srcIn 6 (smallS s))
                          (cond (decide ((List.length xs + 1) * 4 ≤ 140737488355328))
                            (Kn [(0, (.ptr 0 0)), (1, (.int .i64 (k))), (5, (.obj 1 0)), (6, (.int .i64 (IntKind.wrap IntKind.i64 (c - 1))))] [(.box [(.vec (.int .u8) (Prod.fst (pickS (smallS s) 17))), (.int .i64 (Prod.fst (Prod.snd (pickS (smallS s) 17)))), (.int .u64 (Prod.snd (Prod.snd (pickS (smallS s) 17))))]), (.sl 0 (.float .f32) (xs ++ [fdiv FloatKind.f32 (FloatKind.nearest FloatKind.f32 (IntKind.wrap IntKind.i64 (pickV (smallS s) 17 - 8))) 1098907648]))])
                            (False))
                          (False))
                        (cond (decide ((List.length xs + 1) * 4 ≤ 140737488355328))
                          (Kn [(0, (.ptr 0 0)), (1, (.int .i64 (k))), (5, (.obj 1 0)), (6, (.int .i64 (IntKind.wrap IntKind.i64 (c - 1))))] [(.box [(.vec (.int .u8) (Prod.fst (smallS s))), (.int .i64 (Prod.fst (Prod.snd (smallS s)))), (.int .u64 (Prod.snd (Prod.snd (smallS s))))]), (.sl 0 (.float .f32) (xs ++ [smallV s]))])
                          (False))))
                    (cond (k == 11)
                      (cond (k == 11)
                        (cond (srcIn 6 (smallS s))
                          (cond (decide ((List.length xs + 1) * 4 ≤ 140737488355328))
                            (Kn [(0, (.ptr 0 0)), (1, (.int .i64 (k))), (5, (.obj 1 0)), (6, (.int .i64 (IntKind.wrap IntKind.i64 (c - 1))))] [(.box [(.vec (.int .u8) (Prod.fst (pickS (smallS s) 8))), (.int .i64 (Prod.fst (Prod.snd (pickS (smallS s) 8)))), (.int .u64 (Prod.snd (Prod.snd (pickS (smallS s) 8))))]), (.sl 0 (.float .f32) (xs ++ [fdiv FloatKind.f32 (FloatKind.nearest FloatKind.f32 (IntKind.wrap IntKind.i64 (1 + pickV (smallS s) 8))) 1082130432]))])
                            (False))
                          (False))
                        (cond (k == 12)
                          (cond (srcIn 6 (smallS s))
                            (cond (decide ((List.length xs + 1) * 4 ≤ 140737488355328))
                              (Kn [(0, (.ptr 0 0)), (1, (.int .i64 (k))), (5, (.obj 1 0)), (6, (.int .i64 (IntKind.wrap IntKind.i64 (c - 1))))] [(.box [(.vec (.int .u8) (Prod.fst (pickS (smallS s) 17))), (.int .i64 (Prod.fst (Prod.snd (pickS (smallS s) 17)))), (.int .u64 (Prod.snd (Prod.snd (pickS (smallS s) 17))))]), (.sl 0 (.float .f32) (xs ++ [fdiv FloatKind.f32 (FloatKind.nearest FloatKind.f32 (IntKind.wrap IntKind.i64 (pickV (smallS s) 17 - 8))) 1098907648]))])
                              (False))
                            (False))
                          (cond (decide ((List.length xs + 1) * 4 ≤ 140737488355328))
                            (Kn [(0, (.ptr 0 0)), (1, (.int .i64 (k))), (5, (.obj 1 0)), (6, (.int .i64 (IntKind.wrap IntKind.i64 (c - 1))))] [(.box [(.vec (.int .u8) (Prod.fst (smallS s))), (.int .i64 (Prod.fst (Prod.snd (smallS s)))), (.int .u64 (Prod.snd (Prod.snd (smallS s))))]), (.sl 0 (.float .f32) (xs ++ [smallV s]))])
                            (False))))
                      (cond (k == 14)
                        (cond (srcIn 6 (smallS s))
                          (cond (decide ((List.length xs + 1) * 4 ≤ 140737488355328))
                            (Kn [(0, (.ptr 0 0)), (1, (.int .i64 (k))), (5, (.obj 1 0)), (6, (.int .i64 (IntKind.wrap IntKind.i64 (c - 1))))] [(.box [(.vec (.int .u8) (Prod.fst (pickS (smallS s) 8))), (.int .i64 (Prod.fst (Prod.snd (pickS (smallS s) 8)))), (.int .u64 (Prod.snd (Prod.snd (pickS (smallS s) 8))))]), (.sl 0 (.float .f32) (xs ++ [fdiv FloatKind.f32 (FloatKind.nearest FloatKind.f32 (IntKind.wrap IntKind.i64 (1 + pickV (smallS s) 8))) 1082130432]))])
                            (False))
                          (False))
                        (cond (k == 12)
                          (cond (srcIn 6 (smallS s))
                            (cond (decide ((List.length xs + 1) * 4 ≤ 140737488355328))
                              (Kn [(0, (.ptr 0 0)), (1, (.int .i64 (k))), (5, (.obj 1 0)), (6, (.int .i64 (IntKind.wrap IntKind.i64 (c - 1))))] [(.box [(.vec (.int .u8) (Prod.fst (pickS (smallS s) 17))), (.int .i64 (Prod.fst (Prod.snd (pickS (smallS s) 17)))), (.int .u64 (Prod.snd (Prod.snd (pickS (smallS s) 17))))]), (.sl 0 (.float .f32) (xs ++ [fdiv FloatKind.f32 (FloatKind.nearest FloatKind.f32 (IntKind.wrap IntKind.i64 (pickV (smallS s) 17 - 8))) 1098907648]))])
                              (False))
                            (False))
                          (cond (decide ((List.length xs + 1) * 4 ≤ 140737488355328))
                            (Kn [(0, (.ptr 0 0)), (1, (.int .i64 (k))), (5, (.obj 1 0)), (6, (.int .i64 (IntKind.wrap IntKind.i64 (c - 1))))] [(.box [(.vec (.int .u8) (Prod.fst (smallS s))), (.int .i64 (Prod.fst (Prod.snd (smallS s)))), (.int .u64 (Prod.snd (Prod.snd (smallS s))))]), (.sl 0 (.float .f32) (xs ++ [smallV s]))])
                            (False))))))))
              (cond (k == 16)
                (cond (decide ((List.length xs + 1) * 4 ≤ 140737488355328))
                  (Kn [(0, (.ptr 0 0)), (1, (.int .i64 (k))), (5, (.obj 1 0)), (6, (.int .i64 (IntKind.wrap IntKind.i64 (c - 1))))] [(.box [(.vec (.int .u8) (Prod.fst (smallS s))), (.int .i64 (Prod.fst (Prod.snd (smallS s)))), (.int .u64 (Prod.snd (Prod.snd (smallS s))))]), (.sl 0 (.float .f32) (xs ++ [sizeV (smallV s)]))])
                  (False))
                (cond (k == 8)
                  (cond (k == 8)
                    (cond (srcIn 6 (smallS s))
                      (cond (decide ((List.length xs + 1) * 4 ≤ 140737488355328))
                        (Kn [(0, (.ptr 0 0)), (1, (.int .i64 (k))), (5, (.obj 1 0)), (6, (.int .i64 (IntKind.wrap IntKind.i64 (c - 1))))] [(.box [(.vec (.int .u8) (Prod.fst (pickS (smallS s) 8))), (.int .i64 (Prod.fst (Prod.snd (pickS (smallS s) 8)))), (.int .u64 (Prod.snd (Prod.snd (pickS (smallS s) 8))))]), (.sl 0 (.float .f32) (xs ++ [fdiv FloatKind.f32 (FloatKind.nearest FloatKind.f32 (IntKind.wrap IntKind.i64 (1 + pickV (smallS s) 8))) 1082130432]))])
                        (False))
                      (False))
                    (cond (k == 12)
                      (cond (srcIn 6 (smallS s))
                        (cond (decide ((List.length xs + 1) * 4 ≤ 140737488355328))
                          (Kn [(0, (.ptr 0 0)), (1, (.int .i64 (k))), (5, (.obj 1 0)), (6, (.int .i64 (IntKind.wrap IntKind.i64 (c - 1))))] [(.box [(.vec (.int .u8) (Prod.fst (pickS (smallS s) 17))), (.int .i64 (Prod.fst (Prod.snd (pickS (smallS s) 17)))), (.int .u64 (Prod.snd (Prod.snd (pickS (smallS s) 17))))]), (.sl 0 (.float .f32) (xs ++ [fdiv FloatKind.f32 (FloatKind.nearest FloatKind.f32 (IntKind.wrap IntKind.i64 (pickV (smallS s) 17 - 8))) 1098907648]))])
                          (False))
                        (False))
                      (cond (decide ((List.length xs + 1) * 4 ≤ 140737488355328))
                        (Kn [(0, (.ptr 0 0)), (1, (.int .i64 (k))), (5, (.obj 1 0)), (6, (.int .i64 (IntKind.wrap IntKind.i64 (c - 1))))] [(.box [(.vec (.int .u8) (Prod.fst (smallS s))), (.int .i64 (Prod.fst (Prod.snd (smallS s)))), (.int .u64 (Prod.snd (Prod.snd (smallS s))))]), (.sl 0 (.float .f32) (xs ++ [smallV s]))])
                        (False))))
                  (cond (k == 10)
                    (cond (k == 10)
                      (cond (srcIn 6 (smallS s))
                        (cond (decide ((List.length xs + 1) * 4 ≤ 140737488355328))
                          (Kn [(0, (.ptr 0 0)), (1, (.int .i64 (k))), (5, (.obj 1 0)), (6, (.int .i64 (IntKind.wrap IntKind.i64 (c - 1))))] [(.box [(.vec (.int .u8) (Prod.fst (pickS (smallS s) 8))), (.int .i64 (Prod.fst (Prod.snd (pickS (smallS s) 8)))), (.int .u64 (Prod.snd (Prod.snd (pickS (smallS s) 8))))]), (.sl 0 (.float .f32) (xs ++ [fdiv FloatKind.f32 (FloatKind.nearest FloatKind.f32 (IntKind.wrap IntKind.i64 (1 + pickV (smallS s) 8))) 1082130432]))])
                          (False))
                        (False))
                      (cond (k == 12)
                        (cond (srcIn 6 (smallS s))
                          (cond (decide ((List.length xs + 1) * 4 ≤ 140737488355328))
                            (Kn [(0, (.ptr 0 0)), (1, (.int .i64 (k))), (5, (.obj 1 0)), (6, (.int .i64 (IntKind.wrap IntKind.i64 (c - 1))))] [(.box [(.vec (.int .u8) (Prod.fst (pickS (smallS s) 17))), (.int .i64 (Prod.fst (Prod.snd (pickS (smallS s) 17)))), (.int .u64 (Prod.snd (Prod.snd (pickS (smallS s) 17))))]), (.sl 0 (.float .f32) (xs ++ [fdiv FloatKind.f32 (FloatKind.nearest FloatKind.f32 (IntKind.wrap IntKind.i64 (pickV (smallS s) 17 - 8))) 1098907648]))])
                            (False))
                          (False))
                        (cond (decide ((List.length xs + 1) * 4 ≤ 140737488355328))
                          (Kn [(0, (.ptr 0 0)), (1, (.int .i64 (k))), (5, (.obj 1 0)), (6, (.int .i64 (IntKind.wrap IntKind.i64 (c - 1))))] [(.box [(.vec (.int .u8) (Prod.fst (smallS s))), (.int .i64 (Prod.fst (Prod.snd (smallS s)))), (.int .u64 (Prod.snd (Prod.snd (smallS s))))]), (.sl 0 (.float .f32) (xs ++ [smallV s]))])
                          (False))))
                    (cond (k == 11)
                      (cond (k == 11)
                        (cond (srcIn 6 (smallS s))
                          (cond (decide ((List.length xs + 1) * 4 ≤ 140737488355328))
                            (Kn [(0, (.ptr 0 0)), (1, (.int .i64 (k))), (5, (.obj 1 0)), (6, (.int .i64 (IntKind.wrap IntKind.i64 (c - 1))))] [(.box [(.vec (.int .u8) (Prod.fst (pickS (smallS s) 8))), (.int .i64 (Prod.fst (Prod.snd (pickS (smallS s) 8)))), (.int .u64 (Prod.snd (Prod.snd (pickS (smallS s) 8))))]), (.sl 0 (.float .f32) (xs ++ [fdiv FloatKind.f32 (FloatKind.nearest FloatKind.f32 (IntKind.wrap IntKind.i64 (1 + pickV (smallS s) 8))) 1082130432]))])
                            (False))
                          (False))
                        (cond (k == 12)
                          (cond (srcIn 6 (smallS s))
                            (cond (decide ((List.length xs + 1) * 4 ≤ 140737488355328))
                              (Kn [(0, (.ptr 0 0)), (1, (.int .i64 (k))), (5, (.obj 1 0)), (6, (.int .i64 (IntKind.wrap IntKind.i64 (c - 1))))] [(.box [(.vec (.int .u8) (Prod.fst (pickS (smallS s) 17))), (.int .i64 (Prod.fst (Prod.snd (pickS (smallS s) 17)))), (.int .u64 (Prod.snd (Prod.snd (pickS (smallS s) 17))))]), (.sl 0 (.float .f32) (xs ++ [fdiv FloatKind.f32 (FloatKind.nearest FloatKind.f32 (IntKind.wrap IntKind.i64 (pickV (smallS s) 17 - 8))) 1098907648]))])
                              (False))
                            (False))
                          (cond (decide ((List.length xs + 1) * 4 ≤ 140737488355328))
                            (Kn [(0, (.ptr 0 0)), (1, (.int .i64 (k))), (5, (.obj 1 0)), (6, (.int .i64 (IntKind.wrap IntKind.i64 (c - 1))))] [(.box [(.vec (.int .u8) (Prod.fst (smallS s))), (.int .i64 (Prod.fst (Prod.snd (smallS s)))), (.int .u64 (Prod.snd (Prod.snd (smallS s))))]), (.sl 0 (.float .f32) (xs ++ [smallV s]))])
                            (False))))
                      (cond (k == 14)
                        (cond (srcIn 6 (smallS s))
                          (cond (decide ((List.length xs + 1) * 4 ≤ 140737488355328))
                            (Kn [(0, (.ptr 0 0)), (1, (.int .i64 (k))), (5, (.obj 1 0)), (6, (.int .i64 (IntKind.wrap IntKind.i64 (c - 1))))] [(.box [(.vec (.int .u8) (Prod.fst (pickS (smallS s) 8))), (.int .i64 (Prod.fst (Prod.snd (pickS (smallS s) 8)))), (.int .u64 (Prod.snd (Prod.snd (pickS (smallS s) 8))))]), (.sl 0 (.float .f32) (xs ++ [fdiv FloatKind.f32 (FloatKind.nearest FloatKind.f32 (IntKind.wrap IntKind.i64 (1 + pickV (smallS s) 8))) 1082130432]))])
                            (False))
                          (False))
                        (cond (k == 12)
                          (cond (srcIn 6 (smallS s))
                            (cond (decide ((List.length xs + 1) * 4 ≤ 140737488355328))
                              (Kn [(0, (.ptr 0 0)), (1, (.int .i64 (k))), (5, (.obj 1 0)), (6, (.int .i64 (IntKind.wrap IntKind.i64 (c - 1))))] [(.box [(.vec (.int .u8) (Prod.fst (pickS (smallS s) 17))), (.int .i64 (Prod.fst (Prod.snd (pickS (smallS s) 17)))), (.int .u64 (Prod.snd (Prod.snd (pickS (smallS s) 17))))]), (.sl 0 (.float .f32) (xs ++ [fdiv FloatKind.f32 (FloatKind.nearest FloatKind.f32 (IntKind.wrap IntKind.i64 (pickV (smallS s) 17 - 8))) 1098907648]))])
                              (False))
                            (False))
                          (cond (decide ((List.length xs + 1) * 4 ≤ 140737488355328))
                            (Kn [(0, (.ptr 0 0)), (1, (.int .i64 (k))), (5, (.obj 1 0)), (6, (.int .i64 (IntKind.wrap IntKind.i64 (c - 1))))] [(.box [(.vec (.int .u8) (Prod.fst (smallS s))), (.int .i64 (Prod.fst (Prod.snd (smallS s)))), (.int .u64 (Prod.snd (Prod.snd (smallS s))))]), (.sl 0 (.float .f32) (xs ++ [smallV s]))])
                            (False))))))))))))
      (False))
    (K (.obj 1 0) [(.box [(.vec (.int .u8) (Prod.fst s)), (.int .i64 (Prod.fst (Prod.snd s))), (.int .u64 (Prod.snd (Prod.snd s)))]), (.sl 0 (.float .f32) (xs))]) := by kernel_rfl
theorem w_spec_l02DrawNumbers (s : SrcD) (k : Int) (K : V → Heap → Prop) : wpFnG gp_spec_l02DrawNumbers c_spec_l02DrawNumbers Try.f159 (.ptr 0 0 :: encAs [.cell tI] (k, ())) [.box (enc tSrc s)] K =
  LoopE c_spec_l02DrawNumbers ⟨[0, 1, 5, 6], 1, true⟩ (lb c_spec_l02DrawNumbers 3 Try.f159) [(0, (.ptr 0 0)), (1, (.int .i64 (k))), (5, (.obj 1 0)), (6, (.int .i64 (kindN k)))] [(.box [(.vec (.int .u8) (Prod.fst s)), (.int .i64 (Prod.fst (Prod.snd s))), (.int .u64 (Prod.snd (Prod.snd s)))]), (.sl 0 (.float .f32) ([]))] (lkG gp_spec_l02DrawNumbers c_spec_l02DrawNumbers 3 Try.f159 [.box []] K) := by kernel_rfl
noncomputable def s_spec_l02DrawNumbers : Sm := semPG tSrc [.cell tI] [.cell (.own tF)] (fun s x => match x with | (k, _) => inS 900000 s && isK k) fun s x => match x with | (k, _) => ((numsV k s, ()), numsS k s)
theorem ok_spec_l02DrawNumbers : FnOkL Try.prog 159 s_spec_l02DrawNumbers := fnOkO_boxg (fnOkO_runG (C := c_spec_l02DrawNumbers) gp_spec_l02DrawNumbers rfl mixed (.cons ok_spec_l02Size (.cons ok_spec_l02Count .nil)) .nil (.cons ok_spec_l01DrawSmall (.cons ok_spec_l00Src_pick .nil)) Try.func159 (by kernel_rfl)) rfl fun (s : SrcD) (x : ((Int) × Unit)) ws wf hg K h => by
  obtain ⟨k, ⟨⟩⟩ := x
  replace hg : (inS 900000 s && isK k) = true := hg
  replace h : K (tup (valRs [.cell (.own tF)] ((numsV k s, ())) 1)) (.box (enc tSrc (numsS k s)) :: thRs [.cell (.own tF)] ((numsV k s, ()))) := h
  rw [w_spec_l02DrawNumbers s k K]
  simp only [Bool.and_eq_true] at hg
  obtain ⟨hs, hk⟩ := hg
  have kr := kindN_ok k
  have hb : bytes s.1 := bytes_of ws.1
  unfold numsV numsS at h
  obtain ⟨m, hm⟩ : ∃ m : Nat, kindN k = m := ⟨(kindN k).toNat, by omega⟩
  rw [hm, Int.toNat_natCast] at h
  rw [hm] at kr ⊢
  refine loop_run (σ := Nat × SrcD × List Nat) (fun r => fr_spec_l02DrawNumbers_3 s k r.1 []) (fun r => hp_spec_l02DrawNumbers_3 r.2.1 k r.1 r.2.2) (fun r => r.2.2.length + r.1 = m ∧ Far s r.2.1 (4 * (m - r.1 : Nat)) ∧ r.2.2 ++ nusL k r.1 r.2.1 = nusL k m s ∧ nusN k r.1 r.2.1 = nusN k m s) (fun r => r.1) ?_ (m, s, []) ⟨by simp, by simp only [Nat.sub_self]; exact Far.refl s, rfl, rfl⟩
  rintro ⟨j, u, xs⟩ ⟨hl, hf, h1, h2⟩ Kn hk3
  simp only at hl hf h1 h2 hk3 ⊢
  rw [show fr_spec_l02DrawNumbers_3 s k j [] = fr_spec_l02DrawNumbers_3 u k j xs from rfl, r_spec_l02DrawNumbers_3 u k j xs Kn K]
  rw [← h1, ← h2] at h
  cases j with
  | zero =>
    rw [d_f (show ¬ ((0 : Nat) : Int) > 0 by omega), cond_false]
    simp only [nusL, nusN, List.append_nil] at h
    exact h
  | succ j =>
    have hk1 := hk3 (j, nuS k u, xs ++ [nuV k u])
    simp only [nusL, nusN] at h1 h2
    have bu : bytes u.1 := hf.bytes hb
    have b1 := (far_small u).bytes bu
    have f1 : inS 1000000 u = true := hf.ok hs (by omega)
    have f2 : inS 1000000 (smallS u) = true := (hf.trans (far_small u)).ok hs (by omega)
    have r8 := pickV_range (s := smallS u) b1 (n := 8) (by omega)
    have r17 := pickV_range (s := smallS u) b1 (n := 17) (by omega)
    have hnext := hk1 ⟨by simp only [List.length_append, List.length_cons, List.length_nil]; omega, (hf.trans (far_nu k u)).mono (by omega), by rw [List.append_assoc]; exact h1, h2⟩ (by simp only; omega)
    simp only at hnext
    have hcap : decide ((xs.length + 1) * 4 ≤ 140737488355328) = true := decide_eq_true (by omega)
    have g2 : srcIn 6 (smallS u) = true := inS_src f2 (by omega) 6 (by omega)
    rw [d_t (show ((j + 1 : Nat) : Int) > 0 by omega), cond_true, f1, cond_true]
    rw [i64_of (n := ((j + 1 : Nat) : Int) - 1) (by omega) (by omega), show ((j + 1 : Nat) : Int) - 1 = (j : Int) by omega, i64_of (n := 1 + pickV (smallS u) 8) (by omega) (by omega), i64_of (n := pickV (smallS u) 17 - 8) (by omega) (by omega), hcap, g2]
    clear hk1 hk3 h1 h2 h hl hf hcap g2 f1 f2 hm
    rcases kinds hk with r | r | r | r | r | r | r | r | r | r | r | r | r | r | r | r | r <;> subst r <;> exact hnext

theorem node_two {f : List Int} {s : SrcD} (h2 : 2 ≤ f.length) (e : (pickV (pickS s 5) 2 == 0) = true) : nodeV f s = (5 + pickV (pickS (pickS s 5) 2) 4, at2 f 2, at2 f 1, numsV (5 + pickV (pickS (pickS s 5) 2) 4) (pickS (pickS (pickS s 5) 2) 4)) ∧
    nodeS f s = numsS (5 + pickV (pickS (pickS s 5) 2) 4) (pickS (pickS (pickS s 5) 2) 4) ∧ usedV f s = 2 := by
  have hn : dn2 f s = true := by unfold dn2; rw [d_t h2, e]; rfl
  have h1 : dnS1 f s = pickS (pickS s 5) 2 := by unfold dnS1; rw [d_t h2]; rfl
  unfold nodeV nodeS usedV dnA dnB dnT dnK
  rw [hn, h1]
  exact ⟨rfl, rfl, rfl⟩
theorem node_one {f : List Int} {s t : SrcD} (hn : dn2 f s = false) (ht : dnS1 f s = t) (h1 : 1 ≤ f.length) (e : (pickV t 2 == 0) = true) : nodeV f s = (9 + pickV (pickS t 2) 8, at2 f 1, (bif inR (9 + pickV (pickS t 2) 8) 12 14 then pickV (pickS (pickS t 2) 8) 3 else 0), numsV (9 + pickV (pickS t 2) 8) (bif inR (9 + pickV (pickS t 2) 8) 12 14 then pickS (pickS (pickS t 2) 8) 3 else pickS (pickS t 2) 8)) ∧
    nodeS f s = numsS (9 + pickV (pickS t 2) 8) (bif inR (9 + pickV (pickS t 2) 8) 12 14 then pickS (pickS (pickS t 2) 8) 3 else pickS (pickS t 2) 8) ∧ usedV f s = 1 := by
  have hn1 : dn1 f s = true := by unfold dn1; rw [d_t h1, ht, e]; rfl
  have h2 : dnS2 f s = pickS t 2 := by unfold dnS2; rw [d_t h1, ht]; rfl
  have hk : dnK f s = 9 + pickV (pickS t 2) 8 := by unfold dnK; rw [hn, hn1, h2]; rfl
  unfold nodeV nodeS usedV dnA dnB dnT dnX
  rw [hk, hn, hn1, h2]
  exact ⟨rfl, rfl, rfl⟩
theorem node_leaf {f : List Int} {s t : SrcD} (hn : dn2 f s = false) (hn1 : dn1 f s = false) (ht : dnS2 f s = t) : nodeV f s = (pickV s 5, 0, 0, numsV (pickV s 5) t) ∧ nodeS f s = numsS (pickV s 5) t ∧ usedV f s = 0 := by
  have hk : dnK f s = pickV s 5 := by unfold dnK; rw [hn, hn1]; rfl
  unfold nodeV nodeS usedV dnA dnB dnT dnX
  rw [hk, hn, hn1, ht]
  exact ⟨rfl, rfl, rfl⟩

/-! spec.l02DrawNode -/
noncomputable def c_spec_l02DrawNode : Ctx := mkC Try.prog tyT [(158, s_spec_l02Axis)] [] [(70, s_spec_l00Src_pick), (127, s_spec_l00Src_one), (159, s_spec_l02DrawNumbers)] 69 (fun _ => none) 1
noncomputable def gp_spec_l02DrawNode : List (List (Option Ty)) := List.map giveR [.agg [.imm tN], .cell (.imm tI)]
theorem w_spec_l02DrawNode (s : SrcD) (f : List Int) (K : V → Heap → Prop) : wpFnG gp_spec_l02DrawNode c_spec_l02DrawNode Try.f133 (.ptr 0 0 :: encAs [.cell (.slice tI)] (f, ())) [.box (enc tSrc s)] K =
  cond (srcIn 6 s)
    (cond (decide ((↑(List.length f) : Int) ≥ 2))
      (cond (srcIn 6 (pickS s 5))
        (cond (pickV (pickS s 5) 2 == 0)
          (cond (srcIn 6 (pickS (pickS s 5) 2))
            (cond (decide (0 ≤ IntKind.wrap IntKind.i64 ((↑(List.length f) : Int) - 2)))
              ((match f[Int.toNat (IntKind.wrap IntKind.i64 ((↑(List.length f) : Int) - 2))]? with
                | some y0 => cond (decide (0 ≤ IntKind.wrap IntKind.i64 ((↑(List.length f) : Int) - 1)))
                  ((match f[Int.toNat (IntKind.wrap IntKind.i64 ((↑(List.length f) : Int) - 1))]? with
                    | some y1 => cond (inS 900000 (pickS (pickS (pickS s 5) 2) 4) && isK (IntKind.wrap IntKind.i64 (5 + pickV (pickS (pickS s 5) 2) 4)))
                      (K (.tuple [(.agg [(.int .i64 (IntKind.wrap IntKind.i64 (5 + pickV (pickS (pickS s 5) 2) 4))), (.int .i64 (y0)), (.int .i64 (y1)), (.vec (.float .f32) (numsV (IntKind.wrap IntKind.i64 (5 + pickV (pickS (pickS s 5) 2) 4)) (pickS (pickS (pickS s 5) 2) 4)))]), (.int .i64 2)]) [(.box [(.vec (.int .u8) (Prod.fst (numsS (IntKind.wrap IntKind.i64 (5 + pickV (pickS (pickS s 5) 2) 4)) (pickS (pickS (pickS s 5) 2) 4)))), (.int .i64 (Prod.fst (Prod.snd (numsS (IntKind.wrap IntKind.i64 (5 + pickV (pickS (pickS s 5) 2) 4)) (pickS (pickS (pickS s 5) 2) 4))))), (.int .u64 (Prod.snd (Prod.snd (numsS (IntKind.wrap IntKind.i64 (5 + pickV (pickS (pickS s 5) 2) 4)) (pickS (pickS (pickS s 5) 2) 4)))))])])
                      (False)
                    | none => False))
                  (False)
                | none => False))
              (False))
            (False))
          (cond (decide ((↑(List.length f) : Int) ≥ 1))
            (cond (srcIn 6 (pickS (pickS s 5) 2))
              (cond (pickV (pickS (pickS s 5) 2) 2 == 0)
                (cond (srcIn 6 (pickS (pickS (pickS s 5) 2) 2))
                  (cond (decide (0 ≤ IntKind.wrap IntKind.i64 ((↑(List.length f) : Int) - 1)))
                    ((match f[Int.toNat (IntKind.wrap IntKind.i64 ((↑(List.length f) : Int) - 1))]? with
                      | some y2 => cond (inR (IntKind.wrap IntKind.i64 (9 + pickV (pickS (pickS (pickS s 5) 2) 2) 8)) 12 14)
                        (cond (srcIn 6 (pickS (pickS (pickS (pickS s 5) 2) 2) 8))
                          (cond (inS 900000 (pickS (pickS (pickS (pickS (pickS s 5) 2) 2) 8) 3) && isK (IntKind.wrap IntKind.i64 (9 + pickV (pickS (pickS (pickS s 5) 2) 2) 8)))
                            (K (.tuple [(.agg [(.int .i64 (IntKind.wrap IntKind.i64 (9 + pickV (pickS (pickS (pickS s 5) 2) 2) 8))), (.int .i64 (y2)), (.int .i64 (pickV (pickS (pickS (pickS (pickS s 5) 2) 2) 8) 3)), (.vec (.float .f32) (numsV (IntKind.wrap IntKind.i64 (9 + pickV (pickS (pickS (pickS s 5) 2) 2) 8)) (pickS (pickS (pickS (pickS (pickS s 5) 2) 2) 8) 3)))]), (.int .i64 1)]) [(.box [(.vec (.int .u8) (Prod.fst (numsS (IntKind.wrap IntKind.i64 (9 + pickV (pickS (pickS (pickS s 5) 2) 2) 8)) (pickS (pickS (pickS (pickS (pickS s 5) 2) 2) 8) 3)))), (.int .i64 (Prod.fst (Prod.snd (numsS (IntKind.wrap IntKind.i64 (9 + pickV (pickS (pickS (pickS s 5) 2) 2) 8)) (pickS (pickS (pickS (pickS (pickS s 5) 2) 2) 8) 3))))), (.int .u64 (Prod.snd (Prod.snd (numsS (IntKind.wrap IntKind.i64 (9 + pickV (pickS (pickS (pickS s 5) 2) 2) 8)) (pickS (pickS (pickS (pickS (pickS s 5) 2) 2) 8) 3)))))])])
                            (False))
                          (False))
                        (cond (inS 900000 (pickS (pickS (pickS (pickS s 5) 2) 2) 8) && isK (IntKind.wrap IntKind.i64 (9 + pickV (pickS (pickS (pickS s 5) 2) 2) 8)))
                          (K (.tuple [(.agg [(.int .i64 (IntKind.wrap IntKind.i64 (9 + pickV (pickS (pickS (pickS s 5) 2) 2) 8))), (.int .i64 (y2)), (.int .i64 0), (.vec (.float .f32) (numsV (IntKind.wrap IntKind.i64 (9 + pickV (pickS (pickS (pickS s 5) 2) 2) 8)) (pickS (pickS (pickS (pickS s 5) 2) 2) 8)))]), (.int .i64 1)]) [(.box [(.vec (.int .u8) (Prod.fst (numsS (IntKind.wrap IntKind.i64 (9 + pickV (pickS (pickS (pickS s 5) 2) 2) 8)) (pickS (pickS (pickS (pickS s 5) 2) 2) 8)))), (.int .i64 (Prod.fst (Prod.snd (numsS (IntKind.wrap IntKind.i64 (9 + pickV (pickS (pickS (pickS s 5) 2) 2) 8)) (pickS (pickS (pickS (pickS s 5) 2) 2) 8))))), (.int .u64 (Prod.snd (Prod.snd (numsS (IntKind.wrap IntKind.i64 (9 + pickV (pickS (pickS (pickS s 5) 2) 2) 8)) (pickS (pickS (pickS (pickS s 5) 2) 2) 8)))))])])
                          (False))
                      | none => False))
                    (False))
                  (False))
                (cond (inS 900000 (pickS (pickS (pickS s 5) 2) 2) && isK (pickV s 5))
                  (K (.tuple [(.agg [(.int .i64 (pickV s 5)), (.int .i64 0), (.int .i64 0), (.vec (.float .f32) (numsV (pickV s 5) (pickS (pickS (pickS s 5) 2) 2)))]), (.int .i64 0)]) [(.box [(.vec (.int .u8) (Prod.fst (numsS (pickV s 5) (pickS (pickS (pickS s 5) 2) 2)))), (.int .i64 (Prod.fst (Prod.snd (numsS (pickV s 5) (pickS (pickS (pickS s 5) 2) 2))))), (.int .u64 (Prod.snd (Prod.snd (numsS (pickV s 5) (pickS (pickS (pickS s 5) 2) 2)))))])])
                  (False)))
              (False))
            (cond (inS 900000 (pickS (pickS s 5) 2) && isK (pickV s 5))
              (K (.tuple [(.agg [(.int .i64 (pickV s 5)), (.int .i64 0), (.int .i64 0), (.vec (.float .f32) (numsV (pickV s 5) (pickS (pickS s 5) 2)))]), (.int .i64 0)]) [(.box [(.vec (.int .u8) (Prod.fst (numsS (pickV s 5) (pickS (pickS s 5) 2)))), (.int .i64 (Prod.fst (Prod.snd (numsS (pickV s 5) (pickS (pickS s 5) 2))))), (.int .u64 (Prod.snd (Prod.snd (numsS (pickV s 5) (pickS (pickS s 5) 2)))))])])
              (False))))
        (False))
      (cond (decide ((↑(List.length f) : Int) ≥ 1))
        (cond (srcIn 6 (pickS s 5))
          (cond (pickV (pickS s 5) 2 == 0)
            (cond (srcIn 6 (pickS (pickS s 5) 2))
              (cond (decide (0 ≤ IntKind.wrap IntKind.i64 ((↑(List.length f) : Int) - 1)))
                ((match f[Int.toNat (IntKind.wrap IntKind.i64 ((↑(List.length f) : Int) - 1))]? with
                  | some y3 => cond (inR (IntKind.wrap IntKind.i64 (9 + pickV (pickS (pickS s 5) 2) 8)) 12 14)
                    (cond (srcIn 6 (pickS (pickS (pickS s 5) 2) 8))
                      (cond (inS 900000 (pickS (pickS (pickS (pickS s 5) 2) 8) 3) && isK (IntKind.wrap IntKind.i64 (9 + pickV (pickS (pickS s 5) 2) 8)))
                        (K (.tuple [(.agg [(.int .i64 (IntKind.wrap IntKind.i64 (9 + pickV (pickS (pickS s 5) 2) 8))), (.int .i64 (y3)), (.int .i64 (pickV (pickS (pickS (pickS s 5) 2) 8) 3)), (.vec (.float .f32) (numsV (IntKind.wrap IntKind.i64 (9 + pickV (pickS (pickS s 5) 2) 8)) (pickS (pickS (pickS (pickS s 5) 2) 8) 3)))]), (.int .i64 1)]) [(.box [(.vec (.int .u8) (Prod.fst (numsS (IntKind.wrap IntKind.i64 (9 + pickV (pickS (pickS s 5) 2) 8)) (pickS (pickS (pickS (pickS s 5) 2) 8) 3)))), (.int .i64 (Prod.fst (Prod.snd (numsS (IntKind.wrap IntKind.i64 (9 + pickV (pickS (pickS s 5) 2) 8)) (pickS (pickS (pickS (pickS s 5) 2) 8) 3))))), (.int .u64 (Prod.snd (Prod.snd (numsS (IntKind.wrap IntKind.i64 (9 + pickV (pickS (pickS s 5) 2) 8)) (pickS (pickS (pickS (pickS s 5) 2) 8) 3)))))])])
                        (False))
                      (False))
                    (cond (inS 900000 (pickS (pickS (pickS s 5) 2) 8) && isK (IntKind.wrap IntKind.i64 (9 + pickV (pickS (pickS s 5) 2) 8)))
                      (K (.tuple [(.agg [(.int .i64 (IntKind.wrap IntKind.i64 (9 + pickV (pickS (pickS s 5) 2) 8))), (.int .i64 (y3)), (.int .i64 0), (.vec (.float .f32) (numsV (IntKind.wrap IntKind.i64 (9 + pickV (pickS (pickS s 5) 2) 8)) (pickS (pickS (pickS s 5) 2) 8)))]), (.int .i64 1)]) [(.box [(.vec (.int .u8) (Prod.fst (numsS (IntKind.wrap IntKind.i64 (9 + pickV (pickS (pickS s 5) 2) 8)) (pickS (pickS (pickS s 5) 2) 8)))), (.int .i64 (Prod.fst (Prod.snd (numsS (IntKind.wrap IntKind.i64 (9 + pickV (pickS (pickS s 5) 2) 8)) (pickS (pickS (pickS s 5) 2) 8))))), (.int .u64 (Prod.snd (Prod.snd (numsS (IntKind.wrap IntKind.i64 (9 + pickV (pickS (pickS s 5) 2) 8)) (pickS (pickS (pickS s 5) 2) 8)))))])])
                      (False))
                  | none => False))
                (False))
              (False))
            (cond (inS 900000 (pickS (pickS s 5) 2) && isK (pickV s 5))
              (K (.tuple [(.agg [(.int .i64 (pickV s 5)), (.int .i64 0), (.int .i64 0), (.vec (.float .f32) (numsV (pickV s 5) (pickS (pickS s 5) 2)))]), (.int .i64 0)]) [(.box [(.vec (.int .u8) (Prod.fst (numsS (pickV s 5) (pickS (pickS s 5) 2)))), (.int .i64 (Prod.fst (Prod.snd (numsS (pickV s 5) (pickS (pickS s 5) 2))))), (.int .u64 (Prod.snd (Prod.snd (numsS (pickV s 5) (pickS (pickS s 5) 2)))))])])
              (False)))
          (False))
        (cond (inS 900000 (pickS s 5) && isK (pickV s 5))
          (K (.tuple [(.agg [(.int .i64 (pickV s 5)), (.int .i64 0), (.int .i64 0), (.vec (.float .f32) (numsV (pickV s 5) (pickS s 5)))]), (.int .i64 0)]) [(.box [(.vec (.int .u8) (Prod.fst (numsS (pickV s 5) (pickS s 5)))), (.int .i64 (Prod.fst (Prod.snd (numsS (pickV s 5) (pickS s 5))))), (.int .u64 (Prod.snd (Prod.snd (numsS (pickV s 5) (pickS s 5)))))])])
          (False))))
    (False) := by kernel_rfl
noncomputable def s_spec_l02DrawNode : Sm := semPG tSrc [.cell (.slice tI)] [.agg [.imm tN], .cell (.imm tI)] (fun s x => match x with | (f, _) => inS 800000 s) fun s x => match x with | (f, _) => (((nodeV f s, ()), usedV f s, ()), nodeS f s)
theorem ok_spec_l02DrawNode : FnOkL Try.prog 133 s_spec_l02DrawNode := fnOkO_boxg (fnOkO_runG (C := c_spec_l02DrawNode) gp_spec_l02DrawNode rfl mixed (.cons ok_spec_l02Axis .nil) .nil (.cons ok_spec_l00Src_pick (.cons ok_spec_l00Src_one (.cons ok_spec_l02DrawNumbers .nil))) Try.func133 (by kernel_rfl)) rfl fun (s : SrcD) (x : ((List Int) × Unit)) ws wf hg K h => by
  obtain ⟨f, ⟨⟩⟩ := x
  replace hg : (inS 800000 s) = true := hg
  replace h : K (tup (valRs [.agg [.imm tN], .cell (.imm tI)] (((nodeV f s, ()), usedV f s, ())) 1)) (.box (enc tSrc (nodeS f s)) :: thRs [.agg [.imm tN], .cell (.imm tI)] (((nodeV f s, ()), usedV f s, ()))) := h
  rw [w_spec_l02DrawNode s f K]
  have hb : bytes s.1 := bytes_of ws.1
  obtain ⟨⟨wl, _⟩, _⟩ := wf
  have wl : f.length ≤ 9223372036854775807 := wl
  have F1 := far_pick s 5
  have F2 := F1.trans (far_pick (pickS s 5) 2)
  have F3 := F2.trans (far_pick (pickS (pickS s 5) 2) 2)
  have G9 : ∀ {t : SrcD} {n : Int}, Far s t n → n ≤ 100 → inS 900000 t = true := fun hf hn => hf.ok hg (by omega)
  have G : ∀ {t : SrcD} {n : Int}, Far s t n → n ≤ 100 → srcIn 6 t = true := fun hf hn => inS_src (G9 hf hn) (by omega) 6 (by omega)
  have K0 : isK (pickV s 5) = true := by have := pickV_range (s := s) hb (n := 5) (by omega); exact inR_iff.2 (by omega)
  have K4 : ∀ {t : SrcD}, bytes t.1 → IntKind.i64.wrap (5 + pickV t 4) = 5 + pickV t 4 ∧ isK (5 + pickV t 4) = true := fun hb => by
    have := pickV_range hb (n := 4) (by omega)
    exact ⟨i64_of (by omega) (by omega), inR_iff.2 (by omega)⟩
  have K8 : ∀ {t : SrcD}, bytes t.1 → IntKind.i64.wrap (9 + pickV t 8) = 9 + pickV t 8 ∧ isK (9 + pickV t 8) = true := fun hb => by
    have := pickV_range hb (n := 8) (by omega)
    exact ⟨i64_of (by omega) (by omega), inR_iff.2 (by omega)⟩
  have e2 : decide ((f.length : Int) ≥ 2) = decide (2 ≤ f.length) := decide_eq_decide.2 (by omega)
  have e1 : decide ((f.length : Int) ≥ 1) = decide (1 ≤ f.length) := decide_eq_decide.2 (by omega)
  have b2 := F2.bytes hb
  have b3 := F3.bytes hb
  simp only [e2, e1, G (Far.refl s) (by omega), G F1 (by omega), G F2 (by omega), G F3 (by omega), G (F3.trans (far_pick _ 8)) (by omega), G (F2.trans (far_pick _ 8)) (by omega), (K4 b2).1, (K8 b2).1, (K8 b3).1, cond_true]
  have one : ∀ {t : SrcD} {n : Int}, Far s t n → n ≤ 8 → dn2 f s = false → dnS1 f s = t → 1 ≤ f.length → (pickV t 2 == 0) = true →
      cond (inR (9 + pickV (pickS t 2) 8) 12 14)
        (cond (inS 900000 (pickS (pickS (pickS t 2) 8) 3) && isK (9 + pickV (pickS t 2) 8))
          (K (.tuple [.agg [.int .i64 (9 + pickV (pickS t 2) 8), .int .i64 (at2 f 1), .int .i64 (pickV (pickS (pickS t 2) 8) 3), .vec tF (numsV (9 + pickV (pickS t 2) 8) (pickS (pickS (pickS t 2) 8) 3))], .int .i64 1]) [.box (enc tSrc (numsS (9 + pickV (pickS t 2) 8) (pickS (pickS (pickS t 2) 8) 3)))]) False)
        (cond (inS 900000 (pickS (pickS t 2) 8) && isK (9 + pickV (pickS t 2) 8))
          (K (.tuple [.agg [.int .i64 (9 + pickV (pickS t 2) 8), .int .i64 (at2 f 1), .int .i64 0, .vec tF (numsV (9 + pickV (pickS t 2) 8) (pickS (pickS t 2) 8))], .int .i64 1]) [.box (enc tSrc (numsS (9 + pickV (pickS t 2) 8) (pickS (pickS t 2) 8)))]) False) := by
    intro t n hf hn hd ht h1 e
    obtain ⟨q1, q2, q3⟩ := node_one hd ht h1 e
    rw [q1, q2, q3] at h
    have bt := (hf.trans (far_pick t 2)).bytes hb
    have g1 : inS 900000 (pickS (pickS t 2) 8) = true := G9 ((hf.trans (far_pick t 2)).trans (far_pick _ 8)) (by omega)
    have g2 : inS 900000 (pickS (pickS (pickS t 2) 8) 3) = true := G9 (((hf.trans (far_pick t 2)).trans (far_pick _ 8)).trans (far_pick _ 3)) (by omega)
    rw [g1, g2, (K8 bt).2]
    revert h
    cases inR (9 + pickV (pickS t 2) 8) 12 14 <;> exact id
  have leaf : ∀ {t : SrcD} {n : Int}, Far s t n → n ≤ 8 → dn2 f s = false → dn1 f s = false → dnS2 f s = t →
      cond (inS 900000 t && isK (pickV s 5)) (K (.tuple [.agg [.int .i64 (pickV s 5), .int .i64 0, .int .i64 0, .vec tF (numsV (pickV s 5) t)], .int .i64 0]) [.box (enc tSrc (numsS (pickV s 5) t))]) False := by
    intro t n hf hn hd hd1 ht
    obtain ⟨q1, q2, q3⟩ := node_leaf hd hd1 ht
    rw [q1, q2, q3] at h
    rw [G9 hf (by omega), K0]
    exact h
  have x1 : 1 ≤ f.length → IntKind.i64.wrap ((f.length : Int) - 1) = ((f.length - 1 : Nat) : Int) ∧ f[f.length - 1]? = some (at2 f 1) := fun h1 => by
    refine ⟨by rw [i64_of (by omega) (by omega)]; omega, ?_⟩
    unfold at2
    rw [get_lt (show f.length - 1 < f.length by omega)]
    rfl
  by_cases h2 : 2 ≤ f.length
  · have h1 : 1 ≤ f.length := by omega
    obtain ⟨w1, y1⟩ := x1 h1
    have w2 : IntKind.i64.wrap ((f.length : Int) - 2) = ((f.length - 2 : Nat) : Int) := by rw [i64_of (by omega) (by omega)]; omega
    have y2 : f[f.length - 2]? = some (at2 f 2) := by
      unfold at2
      rw [get_lt (show f.length - 2 < f.length by omega)]
      rfl
    simp only [d_t h2, d_t h1, cond_true, w1, w2, d_0, Int.toNat_natCast, y1, y2]
    cases e : (pickV (pickS s 5) 2 == 0) with
    | true =>
      obtain ⟨q1, q2, q3⟩ := node_two h2 e
      rw [q1, q2, q3] at h
      rw [G9 (F2.trans (far_pick _ 4)) (by omega), (K4 b2).2]
      exact h
    | false =>
      have hd : dn2 f s = false := by unfold dn2; rw [d_t h2, e]; rfl
      have hs1 : dnS1 f s = pickS (pickS s 5) 2 := by unfold dnS1; rw [d_t h2]; rfl
      simp only [cond_false]
      cases e3 : (pickV (pickS (pickS s 5) 2) 2 == 0) with
      | true => exact one F2 (by omega) hd hs1 h1 e3
      | false => exact leaf F3 (by omega) hd (by unfold dn1; rw [d_t h1, hs1, e3]; rfl) (by unfold dnS2; rw [d_t h1, hs1]; rfl)
  · have hd : dn2 f s = false := by unfold dn2; rw [d_f h2]; rfl
    have hs1 : dnS1 f s = pickS s 5 := by unfold dnS1; rw [d_f h2]; rfl
    by_cases h1 : 1 ≤ f.length
    · obtain ⟨w1, y1⟩ := x1 h1
      simp only [d_f h2, d_t h1, cond_true, cond_false, w1, d_0, Int.toNat_natCast, y1]
      cases e3 : (pickV (pickS s 5) 2 == 0) with
      | true => exact one F1 (by omega) hd hs1 h1 e3
      | false => exact leaf F2 (by omega) hd (by unfold dn1; rw [d_t h1, hs1, e3]; rfl) (by unfold dnS2; rw [d_t h1, hs1]; rfl)
    · simp only [d_f h2, d_f h1, cond_false]
      exact leaf F1 (by omega) hd (by unfold dn1; rw [d_f h1]; rfl) (by unfold dnS2; rw [d_f h1, hs1]; rfl)

/-! spec.l02DrawOk -/
noncomputable def a_spec_l02DrawOk : Nat → Option Ann := fun n => bif Nat.beq n 4 then some ⟨[0,2,3,4,5],1,true⟩ else bif Nat.beq n 9 then some ⟨[0,2,3,4],1,true⟩ else none
noncomputable def c_spec_l02DrawOk : Ctx := mkC Try.prog tyT [] [] [(133, s_spec_l02DrawNode)] 81 a_spec_l02DrawOk 1 true [] false true true [(70, s_spec_l00Src_pick), (134, s_spec_l00Own)]
noncomputable def gp_spec_l02DrawOk : List (List (Option Ty)) := List.map giveR [.agg [.own tN]]
noncomputable def fr_spec_l02DrawOk_4 (s : SrcD) (ns : List NodeD) (fs : List Int) (k : Int) : Fr := [(0, .ptr 0 0), (2, .ptr 1 0), (3, .ptr 2 0), (4, .obj 3 0), (5, .int .i64 k)]
noncomputable def hp_spec_l02DrawOk_4 (s : SrcD) (ns : List NodeD) (fs : List Int) (k : Int) : Heap := [.box (enc tSrc s), .box [.nils], .box [.obj 4 0], .sl 0 tI fs, .sl 0 tN ns]
theorem r_spec_l02DrawOk_4 (s : SrcD) (ns : List NodeD) (fs : List Int) (k : Int) (Kn : Fr → Heap → Prop) (K : V → Heap → Prop) : round c_spec_l02DrawOk ⟨[0,2,3,4,5],1,true⟩ (lb c_spec_l02DrawOk 4 Try.f82) (fr_spec_l02DrawOk_4 s ns fs k) (hp_spec_l02DrawOk_4 s ns fs k) Kn (lkG gp_spec_l02DrawOk c_spec_l02DrawOk 4 Try.f82 [.box []] K) =
  cond (decide (k > 0))
    (cond (inS 800000 s)
      (cond (decide (0 ≤ 0) && (decide (0 ≤ IntKind.wrap IntKind.i64 ((↑(List.length fs) : Int) - usedV fs s)) && decide (IntKind.wrap IntKind.i64 ((↑(List.length fs) : Int) - usedV fs s) ≤ (↑(List.length fs) : Int))))
        (cond (decide (List.length (List.drop 0 (List.take (Int.toNat (IntKind.wrap IntKind.i64 ((↑(List.length fs) : Int) - usedV fs s))) fs)) ≤ 1000))
          (cond (decide ((List.length (List.drop 0 (List.take (Int.toNat (IntKind.wrap IntKind.i64 ((↑(List.length fs) : Int) - usedV fs s))) fs)) + 1) * 8 ≤ 140737488355328))
            (cond (decide ((List.length ns + 1) * 48 ≤ 140737488355328))
              (Kn [(0, (.ptr 0 0)), (2, (.ptr 1 0)), (3, (.ptr 2 0)), (4, (.obj 3 0)), (5, (.int .i64 (IntKind.wrap IntKind.i64 (k - 1))))] [(.box [(.vec (.int .u8) (Prod.fst (nodeS fs s))), (.int .i64 (Prod.fst (Prod.snd (nodeS fs s)))), (.int .u64 (Prod.snd (Prod.snd (nodeS fs s))))]), (.box [.nils]), (.box [(.obj 4 0)]), (.sl 0 (.int .i64) (List.drop 0 (List.take (Int.toNat (IntKind.wrap IntKind.i64 ((↑(List.length fs) : Int) - usedV fs s))) fs) ++ [(↑(List.length ns) : Int)])), (.sl 0 tN (ns ++ [nodeV fs s]))])
              (False))
            (False))
          (False))
        (False))
      (False))
    (LoopE c_spec_l02DrawOk ⟨[0, 2, 3, 4], 1, true⟩ (lb c_spec_l02DrawOk 9 Try.f82) [(0, (.ptr 0 0)), (2, (.ptr 1 0)), (3, (.ptr 2 0)), (4, (.obj 3 0))] [(.box [(.vec (.int .u8) (Prod.fst s)), (.int .i64 (Prod.fst (Prod.snd s))), (.int .u64 (Prod.snd (Prod.snd s)))]), (.box [.nils]), (.box [(.obj 4 0)]), (.sl 0 (.int .i64) (fs)), (.sl 0 tN (ns))] (lkG gp_spec_l02DrawOk c_spec_l02DrawOk 9 Try.f82 [.box []] K)) := by kernel_rfl
noncomputable def fr_spec_l02DrawOk_9 (s : SrcD) (ns : List NodeD) (fs : List Int) : Fr := [(0, .ptr 0 0), (2, .ptr 1 0), (3, .ptr 2 0), (4, .obj 3 0)]
noncomputable def hp_spec_l02DrawOk_9 (s : SrcD) (ns : List NodeD) (fs : List Int) : Heap := [.box (enc tSrc s), .box [.nils], .box [.obj 4 0], .sl 0 tI fs, .sl 0 tN ns]
theorem r_spec_l02DrawOk_9 (s : SrcD) (ns : List NodeD) (fs : List Int) (Kn : Fr → Heap → Prop) (K : V → Heap → Prop) : round c_spec_l02DrawOk ⟨[0,2,3,4],1,true⟩ (lb c_spec_l02DrawOk 9 Try.f82) (fr_spec_l02DrawOk_9 s ns fs) (hp_spec_l02DrawOk_9 s ns fs) Kn (lkG gp_spec_l02DrawOk c_spec_l02DrawOk 9 Try.f82 [.box []] K) =
  cond (decide ((↑(List.length fs) : Int) > 1))
    (cond (decide (0 ≤ IntKind.wrap IntKind.i64 ((↑(List.length fs) : Int) - 2)) && Nat.blt (Int.toNat (IntKind.wrap IntKind.i64 ((↑(List.length fs) : Int) - 2))) (List.length fs))
      ((match fs[Int.toNat (IntKind.wrap IntKind.i64 ((↑(List.length fs) : Int) - 2))]? with
        | some x0 => cond (decide (0 ≤ IntKind.wrap IntKind.i64 ((↑(List.length fs) : Int) - 1)) && Nat.blt (Int.toNat (IntKind.wrap IntKind.i64 ((↑(List.length fs) : Int) - 1))) (List.length fs))
          ((match fs[Int.toNat (IntKind.wrap IntKind.i64 ((↑(List.length fs) : Int) - 1))]? with
            | some x1 => cond (srcIn 6 s)
              (cond (decide (0 ≤ 0) && (decide (0 ≤ IntKind.wrap IntKind.i64 ((↑(List.length fs) : Int) - 2)) && decide (IntKind.wrap IntKind.i64 ((↑(List.length fs) : Int) - 2) ≤ (↑(List.length fs) : Int))))
                (cond (decide (List.length (List.take (Int.toNat (IntKind.wrap IntKind.i64 ((↑(List.length fs) : Int) - 2))) fs) ≤ 1000))
                  (cond (decide ((List.length (List.take (Int.toNat (IntKind.wrap IntKind.i64 ((↑(List.length fs) : Int) - 2))) fs) + 1) * 8 ≤ 140737488355328))
                    (cond (decide ((List.length ns + 1) * 48 ≤ 140737488355328))
                      (Kn [(0, (.ptr 0 0)), (2, (.ptr 1 0)), (3, (.ptr 2 0)), (4, (.obj 3 0))] [(.box [(.vec (.int .u8) (Prod.fst (pickS s 3))), (.int .i64 (Prod.fst (Prod.snd (pickS s 3)))), (.int .u64 (Prod.snd (Prod.snd (pickS s 3))))]), (.box [.nils]), (.box [(.obj 4 0)]), (.sl 0 (.int .i64) (List.take (Int.toNat (IntKind.wrap IntKind.i64 ((↑(List.length fs) : Int) - 2))) fs ++ [(↑(List.length ns) : Int)])), (.sl 0 tN (ns ++ [(IntKind.wrap IntKind.i64 (5 + pickV s 3), x0, x1, [])]))])
                      (False))
                    (False))
                  (False))
                (False))
              (False)
            | none => False))
          (False)
        | none => False))
      (False))
    (K (.agg [(.obj 1 0)]) [(.box [(.vec (.int .u8) (Prod.fst s)), (.int .i64 (Prod.fst (Prod.snd s))), (.int .u64 (Prod.snd (Prod.snd s)))]), (.sl 0 tN (ns))]) := by kernel_rfl
theorem w_spec_l02DrawOk (s : SrcD) (K : V → Heap → Prop) : wpFnG gp_spec_l02DrawOk c_spec_l02DrawOk Try.f82 (.ptr 0 0 :: encAs [] ()) [.box (enc tSrc s)] K =
  cond (srcIn 6 s)
    (LoopE c_spec_l02DrawOk ⟨[0, 2, 3, 4, 5], 1, true⟩ (lb c_spec_l02DrawOk 4 Try.f82) [(0, (.ptr 0 0)), (2, (.ptr 1 0)), (3, (.ptr 2 0)), (4, (.obj 3 0)), (5, (.int .i64 (IntKind.wrap IntKind.i64 (1 + pickV s 7))))] [(.box [(.vec (.int .u8) (Prod.fst (pickS s 7))), (.int .i64 (Prod.fst (Prod.snd (pickS s 7)))), (.int .u64 (Prod.snd (Prod.snd (pickS s 7))))]), (.box [.nils]), (.box [(.obj 4 0)]), (.sl 0 (.int .i64) ([])), (.sl 0 tN ([]))] (lkG gp_spec_l02DrawOk c_spec_l02DrawOk 4 Try.f82 [.box []] K))
    (False) := by kernel_rfl
noncomputable def s_spec_l02DrawOk : Sm := semPG tSrc [] [.agg [.own tN]] (fun s x => match x with | _ => inS 500000 s) fun s x => match x with | _ => (((shapeV s, ()), ()), shapeS s)
theorem ok_spec_l02DrawOk : FnOkL Try.prog 82 s_spec_l02DrawOk := fnOkO_boxg (fnOkO_runG (C := c_spec_l02DrawOk) gp_spec_l02DrawOk rfl mixed .nil .nil (.cons ok_spec_l02DrawNode .nil) Try.func82 (by kernel_rfl) (h5 := (.cons ok_spec_l00Src_pick (by first | exact semP_localE _ _ _ _ | exact semPG_localE _ _ _ _ _ | exact semV_localE _ _ _ _) (.cons ok_spec_l00Own (by first | exact semP_localE _ _ _ _ | exact semPG_localE _ _ _ _ _ | exact semV_localE _ _ _ _) .nil)))) rfl fun (s : SrcD) (x : Unit) ws wf hg K h => by
  obtain ⟨⟩ := x
  replace hg : (inS 500000 s) = true := hg
  replace h : K (tup (valRs [.agg [.own tN]] (((shapeV s, ()), ())) 1)) (.box (enc tSrc (shapeS s)) :: thRs [.agg [.own tN]] (((shapeV s, ()), ()))) := h
  rw [w_spec_l02DrawOk s  K]
  have hb : bytes s.1 := bytes_of ws.1
  have g6 : srcIn 6 s = true := inS_src hg (by omega) 6 (by omega)
  obtain ⟨n, hn, n1, n2, hok, f1, f2⟩ := sh1_ok hb
  have hs1 : sh1 s = shGo n (sh0 s) := by unfold sh1; rw [hn, Int.toNat_natCast]
  rw [g6, cond_true, hn, i64_of (n := (n : Int)) (by omega) (by omega)]
  refine loop_run (σ := Nat × ShD) (fun r => fr_spec_l02DrawOk_4 s [] [] r.1) (fun r => hp_spec_l02DrawOk_4 r.2.2.2 r.2.1 r.2.2.1 r.1) (fun r => r.1 ≤ n ∧ ShOk r.2 (n - r.1) ∧ Far s r.2.2.2 (2 + 26 * (n - r.1 : Nat)) ∧ shGo r.1 r.2 = sh1 s) (fun r => r.1) ?_ (n, sh0 s) ⟨Nat.le_refl _, by simp only [Nat.sub_self]; exact sh0_ok hb, by simp only [Nat.sub_self]; exact far_pick s 7, hs1.symm⟩
  rintro ⟨j, ns, fs, u⟩ ⟨hj, hq, hf, hgo⟩ Kn hk3
  simp only at hj hq hf hgo hk3 ⊢
  rw [show fr_spec_l02DrawOk_4 s [] [] j = fr_spec_l02DrawOk_4 u ns fs j from rfl, r_spec_l02DrawOk_4 u ns fs j Kn K]
  have hnl : ns.length = n - j := hq.l
  have hfl : fs.length ≤ ns.length := hq.st.len
  cases j with
  | zero =>
    rw [d_f (show ¬ ((0 : Nat) : Int) > 0 by omega), cond_false]
    have hgo : (ns, fs, u) = sh1 s := hgo
    have e1 : (sh1 s).2.1 = fs := by rw [← hgo]
    rw [e1] at f1 f2
    have hsh2 : sh2 s = clGo (fs.length - 1) (ns, fs, u) := by unfold sh2; rw [e1, hgo]
    refine loop_run (σ := Nat × ShD) (fun r => fr_spec_l02DrawOk_9 u [] []) (fun r => hp_spec_l02DrawOk_9 r.2.2.2 r.2.1 r.2.2.1) (fun r => r.2.2.1.length = r.1 + 1 ∧ (∃ m, ShOk r.2 m ∧ m + r.1 ≤ 14) ∧ Far s r.2.2.2 (200 + 2 * (14 - r.1 : Nat)) ∧ clGo r.1 r.2 = sh2 s) (fun r => r.1) ?_ (fs.length - 1, ns, fs, u) ⟨by simp only; omega, ⟨n - 0, hq, by simp only; omega⟩, hf.mono (by omega), hsh2.symm⟩
    rintro ⟨i, ms, es, v⟩ ⟨hl, ⟨m, hm, hmi⟩, hv, hcl⟩ Kn9 hk9
    simp only at hl hm hmi hv hcl hk9 ⊢
    rw [show fr_spec_l02DrawOk_9 u [] [] = fr_spec_l02DrawOk_9 v ms es from rfl, r_spec_l02DrawOk_9 v ms es Kn9 K]
    have hml : ms.length = m := hm.l
    cases i with
    | zero =>
      rw [d_f (show ¬ ((es.length : Nat) : Int) > 1 by omega), cond_false]
      have hcl : (ms, es, v) = sh2 s := hcl
      unfold shapeV shapeS at h
      rw [← hcl] at h
      exact h
    | succ i =>
      have hk1 := hk9 (i, clStep (ms, es, v))
      have bv : bytes v.1 := hv.bytes hb
      have r3 := pickV_range bv (n := 3) (by omega)
      have w2 : IntKind.i64.wrap ((es.length : Int) - 2) = ((es.length - 2 : Nat) : Int) := by rw [i64_of (by omega) (by omega)]; omega
      have w1 : IntKind.i64.wrap ((es.length : Int) - 1) = ((es.length - 1 : Nat) : Int) := by rw [i64_of (by omega) (by omega)]; omega
      have w5 : IntKind.i64.wrap (5 + pickV v 3) = 5 + pickV v 3 := i64_of (by omega) (by omega)
      have y2 : es[es.length - 2]? = some (at2 es 2) := by
        unfold at2
        rw [get_lt (show es.length - 2 < es.length by omega)]
        rfl
      have y1 : es[es.length - 1]? = some (at2 es 1) := by
        unfold at2
        rw [get_lt (show es.length - 1 < es.length by omega)]
        rfl
      have gv : srcIn 6 v = true := inS_src ((hv.ok hg (m := 900000) (by omega))) (by omega) 6 (by omega)
      have htl : (es.take (es.length - 2)).length = es.length - 2 := by rw [List.length_take]; omega
      have hcf : (clStep (ms, es, v)).2.1.length = i + 1 := by rw [clStep_free _ (by show 2 ≤ es.length; omega)]; show es.length - 1 = i + 1; omega
      have next := hk1 ⟨hcf, ⟨m + 1, clStep_ok hm (by show 2 ≤ es.length; omega), by have := hmi; show m + 1 + i ≤ 14; omega⟩, (hv.trans (far_pick v 3)).mono (by simp only; omega), hcl⟩ (by simp only; omega)
      simp only [d_t (show ((es.length : Nat) : Int) > 1 by omega), cond_true, w1, w2, w5, d_0, Int.toNat_natCast, blt_t (show es.length - 2 < es.length by omega), blt_t (show es.length - 1 < es.length by omega), Bool.and_self, y1, y2, gv, htl, d_t (show (0 : Int) ≤ 0 by omega), d_t (show ((es.length - 2 : Nat) : Int) ≤ (es.length : Int) by omega), d_t (show es.length - 2 ≤ 1000 by omega), d_t (show (es.length - 2 + 1) * 8 ≤ 140737488355328 by omega), d_t (show (ms.length + 1) * 48 ≤ 140737488355328 by omega)]
      exact next
  | succ j =>
    have hk1 := hk3 (j, shStep (ns, fs, u))
    have bu : bytes u.1 := hf.bytes hb
    have ur := used_range fs u
    obtain ⟨d, hd⟩ : ∃ d : Nat, ((fs.length : Int) - usedV fs u) = (d : Int) := ⟨((fs.length : Int) - usedV fs u).toNat, by omega⟩
    have w1 : IntKind.i64.wrap ((fs.length : Int) - usedV fs u) = (d : Int) := by rw [hd]; exact i64_of (by omega) (by omega)
    have wj : IntKind.i64.wrap (((j + 1 : Nat) : Int) - 1) = (j : Int) := by rw [i64_of (by omega) (by omega)]; omega
    have htl : (List.drop 0 (fs.take d)).length = d := by rw [List.drop_zero, List.length_take]; omega
    have gu : inS 800000 u = true := hf.ok hg (by omega)
    have next := hk1 ⟨by simp only; omega, by have := shStep_ok hq; rw [show n - (j + 1) + 1 = n - j by omega] at this; exact this, (hf.trans (far_node fs u)).mono (by simp only; omega), hgo⟩ (by simp only; omega)
    unfold shStep at next
    simp only [hd, Int.toNat_natCast] at next
    simp only [d_t (show ((j + 1 : Nat) : Int) > 0 by omega), cond_true, gu, w1, wj, d_0, Int.toNat_natCast, htl, d_t (show (0 : Int) ≤ 0 by omega), d_t (show (d : Int) ≤ (fs.length : Int) by omega), d_t (show d ≤ 1000 by omega), d_t (show (d + 1) * 8 ≤ 140737488355328 by omega), d_t (show (ns.length + 1) * 48 ≤ 140737488355328 by omega), Bool.and_self]
    exact next

end Go.Proofs.Ytfhpmcdbfebflaa

/- Floats as rational numbers: rungs and their magnitudes, and to what rung a number is rounded. -/
set_option linter.unusedVariables false
namespace Go.Ev
open Ieee

/-- A power of two. -/
def pw (e : Int) : Rat := (2 : Rat) ^ e
theorem pw_pos (e : Int) : 0 < pw e := Rat.zpow_pos (by decide)
theorem pw_add (a b : Int) : pw (a + b) = pw a * pw b := Rat.zpow_add (by decide) a b
theorem pw_nat (n : Nat) : pw (n : Int) = ((2 ^ n : Nat) : Rat) := by
  unfold pw
  rw [Rat.zpow_natCast]
  induction n with
  | zero => rfl
  | succ n ih => rw [Rat.pow_succ, ih, Nat.pow_succ, Rat.natCast_mul]; rfl
theorem pw_zero : pw 0 = 1 := Rat.zpow_zero _
theorem pw_succ (e : Int) : pw (e + 1) = 2 * pw e := by
  rw [pw_add, Rat.mul_comm]; congr 1
theorem pw_le {a b : Int} (h : a ≤ b) : pw a ≤ pw b := by
  obtain ⟨n, rfl⟩ : ∃ n : Nat, b = a + n := ⟨(b - a).toNat, by omega⟩
  rw [pw_add, pw_nat]
  have h1 := pw_pos a
  have h2 : (1 : Rat) ≤ ((2 ^ n : Nat) : Rat) := by
    have := Nat.two_pow_pos n
    exact_mod_cast this
  calc pw a = pw a * 1 := by grind
    _ ≤ _ := Rat.mul_le_mul_of_nonneg_left h2 (Rat.le_of_lt h1)

namespace Fl
variable (f : Format)

theorem B0 : 0 < f.binade := Nat.two_pow_pos _

/-- The magnitude of a rung, in units of the least place. -/
def mgN (r : Nat) : Nat := if r < f.binade then r else (f.binade + r % f.binade) * 2 ^ (r / f.binade - 1)
/-- The magnitude of a rung. -/
def mg (r : Nat) : Rat := (mgN f r : Rat) * pw f.leastPlace

theorem mgN_at (p j : Nat) (hj : j ≤ 2 * f.binade) (h : p = 0 ∨ f.binade ≤ j) : mgN f (p * f.binade + j) = j * 2 ^ p := by
  have b0 := B0 f
  unfold mgN
  generalize f.binade = B at *
  by_cases h1 : j < B
  · have : p = 0 := by omega
    subst this
    rw [if_pos (by omega)]
    simp
  · by_cases h2 : j = 2 * B
    · subst h2
      have e : p * B + 2 * B = (p + 2) * B := by rw [Nat.add_mul]
      have e3 : B ≤ (p + 2) * B := Nat.le_mul_of_pos_left B (by omega)
      rw [e, if_neg (by omega), Nat.mul_mod_left, Nat.mul_div_cancel _ b0]
      have : p + 2 - 1 = p + 1 := by omega
      rw [this, Nat.pow_succ, Nat.add_zero, Nat.mul_comm 2 B, Nat.mul_assoc, Nat.mul_comm 2 (2 ^ p)]
    · obtain ⟨t, rfl⟩ : ∃ t, j = B + t := ⟨j - B, by omega⟩
      have e : p * B + (B + t) = t + B * (p + 1) := by rw [Nat.mul_add, Nat.mul_comm]; omega
      have e3 : B ≤ B * (p + 1) := Nat.le_mul_of_pos_right B (by omega)
      rw [e, if_neg (by omega), Nat.add_mul_mod_self_left, Nat.mod_eq_of_lt (by omega), Nat.add_mul_div_left _ _ b0, Nat.div_eq_of_lt (by omega)]
      simp

/-- Each rung in its scale. -/
theorem scale (r : Nat) : ∃ p j, r = p * f.binade + j ∧ j < 2 * f.binade ∧ (p = 0 ∨ f.binade ≤ j) := by
  have b0 := B0 f
  generalize f.binade = B at *
  by_cases h : r < B
  · exact ⟨0, r, by omega, by omega, .inl rfl⟩
  · have h1 := Nat.div_add_mod r B
    have h2 := Nat.mod_lt r b0
    have h3 : 1 ≤ r / B := (Nat.one_le_div_iff b0).2 (by omega)
    refine ⟨r / B - 1, B + r % B, ?_, by omega, .inr (by omega)⟩
    have : r / B = r / B - 1 + 1 := by omega
    rw [this, Nat.mul_add, Nat.mul_comm] at h1
    omega

theorem mgN_lt_succ (r : Nat) : mgN f r < mgN f (r + 1) := by
  obtain ⟨p, j, e, h1, h2⟩ := scale f r
  subst e
  rw [mgN_at f p j (by omega) h2, Nat.add_assoc, mgN_at f p (j + 1) (by omega) (by omega)]
  exact Nat.mul_lt_mul_of_pos_right (by omega) (Nat.two_pow_pos _)
theorem mgN_lt {r s : Nat} (h : r < s) : mgN f r < mgN f s := by
  induction s with
  | zero => omega
  | succ s ih =>
    by_cases e : r = s
    · subst e; exact mgN_lt_succ f r
    · exact Nat.lt_trans (ih (by omega)) (mgN_lt_succ f s)
theorem mgN_le {r s : Nat} (h : r ≤ s) : mgN f r ≤ mgN f s := by
  by_cases e : r = s
  · subst e; exact Nat.le_refl _
  · exact Nat.le_of_lt (mgN_lt f (by omega))
theorem mg_lt {r s : Nat} (h : r < s) : mg f r < mg f s :=
  Rat.mul_lt_mul_of_pos_right (Rat.natCast_lt_natCast.2 (mgN_lt f h)) (pw_pos _)
theorem mg_le {r s : Nat} (h : r ≤ s) : mg f r ≤ mg f s :=
  Rat.mul_le_mul_of_nonneg_right (Rat.natCast_le_natCast.2 (mgN_le f h)) (Rat.le_of_lt (pw_pos _))
theorem lt_of_mg {r s : Nat} (h : mg f r < mg f s) : r < s := by
  refine Nat.lt_of_not_le fun h2 => ?_
  have := mg_le f h2
  grind
theorem le_of_mg {r s : Nat} (h : mg f r ≤ mg f s) : r ≤ s := by
  refine Nat.le_of_not_lt fun h2 => ?_
  have := mg_lt f h2
  grind
theorem mg_inj {r s : Nat} (h : mg f r = mg f s) : r = s :=
  Nat.le_antisymm (le_of_mg f (by grind)) (le_of_mg f (by grind))
theorem mg_zero : mg f 0 = 0 := by
  have : mgN f 0 = 0 := by unfold mgN; rw [if_pos (B0 f)]
  unfold mg
  rw [this]
  exact Rat.zero_mul _
theorem mg_nonneg (r : Nat) : 0 ≤ mg f r := by rw [← mg_zero f]; exact mg_le f (Nat.zero_le r)
theorem mg_at (p j : Nat) (hj : j ≤ 2 * f.binade) (h : p = 0 ∨ f.binade ≤ j) : mg f (p * f.binade + j) = (j : Rat) * pw (f.leastPlace + p) := by
  unfold mg
  rw [mgN_at f p j hj h, pw_add, pw_nat, Rat.natCast_mul]
  grind

/-- What Toward.even.cut gives. -/
theorem cut_spec (neg : Bool) (n d : Nat) : 2 * n ≤ (2 * Toward.even.cut neg n d + 1) * 2 ^ d ∧ 2 * (Toward.even.cut neg n d) * 2 ^ d ≤ 2 * n + 2 ^ d ∧
    ((2 * n = (2 * Toward.even.cut neg n d + 1) * 2 ^ d ∨ 2 * (Toward.even.cut neg n d) * 2 ^ d = 2 * n + 2 ^ d) → Toward.even.cut neg n d % 2 = 0) := by
  unfold Toward.cut
  simp only []
  by_cases hd : d ≤ n.log2 + 2
  · rw [Nat.min_eq_left hd, Nat.shiftLeft_eq, Nat.one_mul]
    have g0 := Nat.two_pow_pos d
    generalize 2 ^ d = g at *
    have h1 := Nat.div_add_mod n g
    have h2 := Nat.mod_lt n g0
    generalize n / g = low at *
    generalize n % g = rest at *
    have e1 : (2 * low + 1) * g = 2 * (g * low) + g := by grind
    have e2 : (2 * (low + 1) + 1) * g = 2 * (g * low) + 3 * g := by grind
    have e3 : 2 * low * g = 2 * (g * low) := by grind
    have e4 : 2 * (low + 1) * g = 2 * (g * low) + 2 * g := by grind
    by_cases c1 : g < 2 * rest
    · have : (decide (g < 2 * rest) || g == 2 * rest && low % 2 == 1).toNat = 1 := by simp [c1]
      rw [this, e2, e4]
      refine ⟨by omega, by omega, fun h => ?_⟩
      omega
    · by_cases c2 : g = 2 * rest
      · by_cases c3 : low % 2 = 1
        · have : (decide (g < 2 * rest) || g == 2 * rest && low % 2 == 1).toNat = 1 := by simp [c2, c3]
          rw [this, e2, e4]
          refine ⟨by omega, by omega, fun h => ?_⟩
          omega
        · have : (decide (g < 2 * rest) || g == 2 * rest && low % 2 == 1).toNat = 0 := by simp [c2, c3]
          simp only [this, Nat.add_zero, e1, e3]
          refine ⟨by omega, by omega, fun h => ?_⟩
          omega
      · have : (decide (g < 2 * rest) || g == 2 * rest && low % 2 == 1).toNat = 0 := by simp [c1, c2]
        simp only [this, Nat.add_zero, e1, e3]
        refine ⟨by omega, by omega, fun h => ?_⟩
        omega
  · have hl : n < 2 ^ (n.log2 + 1) := Nat.lt_log2_self
    have hg : 2 ^ (n.log2 + 2) = 2 * 2 ^ (n.log2 + 1) := by rw [Nat.pow_succ, Nat.mul_comm]
    have hp : 2 ^ (n.log2 + 2) ≤ 2 ^ d := Nat.pow_le_pow_right (by omega) (by omega)
    rw [Nat.min_eq_right (by omega), Nat.shiftLeft_eq, Nat.one_mul, Nat.div_eq_of_lt (by omega), Nat.mod_eq_of_lt (by omega)]
    have : (decide (2 ^ (n.log2 + 2) < 2 * n) || 2 ^ (n.log2 + 2) == 2 * n && 0 % 2 == 1).toNat = 0 := by
      rw [decide_eq_false (by omega)]; simp
    rw [this]
    refine ⟨by omega, by omega, fun _ => rfl⟩

/-- The rung that is nearest to a number. -/
def rg (m : Nat) (e : Int) : Nat :=
  if m = 0 then 0 else
  min ((max (e + m.log2 - f.fractionBits) f.leastPlace - f.leastPlace).toNat * f.binade + Toward.even.cut false (m <<< (e - max (e + m.log2 - f.fractionBits) f.leastPlace).toNat) (max (e + m.log2 - f.fractionBits) f.leastPlace - e).toNat) f.infRung

theorem nearest_eq (neg : Bool) (m : Nat) (e : Int) : f.nearest neg m e = f.word neg (rg f m e) := by
  unfold Format.nearest rg
  by_cases h : m = 0
  · rw [if_pos h, if_pos h]
  · rw [if_neg h, if_neg h]
    rfl

/-- To what a number is rounded, in its scale. -/
theorem rg_scale {m : Nat} {e : Int} (hm : m ≠ 0) : ∃ p c : Nat, rg f m e = min (p * f.binade + c) f.infRung ∧ (p = 0 ∨ f.binade ≤ c) ∧ c ≤ 2 * f.binade ∧
    (p = 0 ∨ (f.binade : Rat) * pw (f.leastPlace + p) ≤ (m : Rat) * pw e) ∧ (m : Rat) * pw e < (2 * f.binade : Rat) * pw (f.leastPlace + p) ∧
    2 * ((m : Rat) * pw e) ≤ (2 * c + 1) * pw (f.leastPlace + p) ∧ (2 * c : Rat) * pw (f.leastPlace + p) ≤ 2 * ((m : Rat) * pw e) + pw (f.leastPlace + p) ∧
    ((2 * ((m : Rat) * pw e) = (2 * c + 1) * pw (f.leastPlace + p) ∨ (2 * c : Rat) * pw (f.leastPlace + p) = 2 * ((m : Rat) * pw e) + pw (f.leastPlace + p)) → c % 2 = 0) := by
  unfold rg
  rw [if_neg hm]
  have hlast : f.leastPlace ≤ max (e + m.log2 - f.fractionBits) f.leastPlace := Int.le_max_right _ _
  have hlast2 : e + m.log2 - f.fractionBits ≤ max (e + m.log2 - f.fractionBits) f.leastPlace := Int.le_max_left _ _
  have hlast3 : max (e + m.log2 - f.fractionBits) f.leastPlace = f.leastPlace ∨ max (e + m.log2 - f.fractionBits) f.leastPlace = e + m.log2 - f.fractionBits := by omega
  generalize max (e + m.log2 - f.fractionBits) f.leastPlace = last at *
  obtain ⟨p, hp⟩ : ∃ p : Nat, last = f.leastPlace + p := ⟨(last - f.leastPlace).toNat, by omega⟩
  have hp2 : (last - f.leastPlace).toNat = p := by omega
  rw [hp2]
  have hs := cut_spec false (m <<< (e - last).toNat) (last - e).toNat
  generalize hc : Toward.even.cut false (m <<< (e - last).toNat) (last - e).toNat = c at *
  -- the number in units
  have hx : (m : Rat) * pw e * ((2 ^ (last - e).toNat : Nat) : Rat) = ((m <<< (e - last).toNat : Nat) : Rat) * pw last := by
    rw [Nat.shiftLeft_eq, Rat.natCast_mul, ← pw_nat, ← pw_nat, Rat.mul_assoc, ← pw_add, Rat.mul_assoc, ← pw_add]
    congr 2
    omega
  have hu := pw_pos last
  have g0 : (0 : Rat) < ((2 ^ (last - e).toNat : Nat) : Rat) := Rat.natCast_pos.2 (Nat.two_pow_pos _)
  generalize m <<< (e - last).toNat = n at *
  generalize hgg : 2 ^ (last - e).toNat = g at *
  have b0 := B0 f
  -- bounds by the logarithm
  have hm1 : 2 ^ m.log2 ≤ m := Nat.log2_self_le hm
  have hm2 : m < 2 ^ (m.log2 + 1) := Nat.lt_log2_self
  have hlo : last = e + m.log2 - f.fractionBits → (f.binade : Rat) * pw last ≤ (m : Rat) * pw e := by
    intro h
    have e1 : (f.binade : Rat) * pw last = ((2 ^ m.log2 : Nat) : Rat) * pw e := by
      unfold Format.binade
      rw [← pw_nat, ← pw_nat, ← pw_add, ← pw_add]
      congr 1
      omega
    rw [e1]
    exact Rat.mul_le_mul_of_nonneg_right (Rat.natCast_le_natCast.2 hm1) (Rat.le_of_lt (pw_pos _))
  have hhi : (m : Rat) * pw e < (2 * f.binade : Rat) * pw last := by
    have e1 : (m : Rat) * pw e < ((2 ^ (m.log2 + 1) : Nat) : Rat) * pw e := Rat.mul_lt_mul_of_pos_right (Rat.natCast_lt_natCast.2 hm2) (pw_pos _)
    have e2 : ((2 ^ (m.log2 + 1) : Nat) : Rat) * pw e ≤ (2 * f.binade : Rat) * pw last := by
      have e3 : (2 * f.binade : Rat) = pw ((f.fractionBits + 1 : Nat) : Int) := by
        rw [pw_nat]
        unfold Format.binade
        rw [Nat.pow_succ, Rat.natCast_mul]
        grind
      rw [e3, ← pw_nat, ← pw_add, ← pw_add]
      exact pw_le (by omega)
    grind
  have hn0 : (0 : Rat) ≤ (n : Rat) := Rat.natCast_nonneg
  -- the cut in units
  obtain ⟨s1, s2, s3⟩ := hs
  have s1' : (2 * n : Rat) ≤ (2 * c + 1) * g := by
    have := Rat.natCast_le_natCast.2 s1
    simpa [Rat.natCast_mul, Rat.natCast_add] using this
  have s2' : (2 * c * g : Rat) ≤ 2 * n + g := by
    have := Rat.natCast_le_natCast.2 s2
    simpa [Rat.natCast_mul, Rat.natCast_add] using this
  have cancel : ∀ {a b : Rat}, a * g ≤ b * g → a ≤ b := fun h => Rat.le_of_mul_le_mul_right h g0
  have q1 : 2 * ((m : Rat) * pw e) ≤ (2 * c + 1) * pw last := by
    refine cancel ?_
    have := Rat.mul_le_mul_of_nonneg_right s1' (Rat.le_of_lt hu)
    grind
  have q2 : (2 * c : Rat) * pw last ≤ 2 * ((m : Rat) * pw e) + pw last := by
    refine cancel ?_
    have := Rat.mul_le_mul_of_nonneg_right s2' (Rat.le_of_lt hu)
    grind
  have uu : ∀ {a b : Rat}, a * pw last ≤ b * pw last → a ≤ b := fun h => Rat.le_of_mul_le_mul_right h hu
  have hcB : c ≤ 2 * f.binade := by
    have : (2 * c : Rat) * pw last < (4 * f.binade + 1) * pw last := by grind
    have h3 : (2 * c : Rat) < 4 * f.binade + 1 := Rat.lt_of_mul_lt_mul_right this (Rat.le_of_lt hu)
    have h4 : ((2 * c : Nat) : Rat) < ((4 * f.binade + 1 : Nat) : Rat) := by
      simpa [Rat.natCast_mul, Rat.natCast_add] using h3
    have := Rat.natCast_lt_natCast.1 h4
    omega
  have hpB : p = 0 ∨ f.binade ≤ c := by
    by_cases h0 : p = 0
    · exact .inl h0
    · right
      have h1 := hlo (by omega)
      have : (2 * f.binade : Rat) * pw last ≤ (2 * c + 1) * pw last := by grind
      have h3 := uu this
      have h4 : ((2 * f.binade : Nat) : Rat) ≤ ((2 * c + 1 : Nat) : Rat) := by
        simpa [Rat.natCast_mul, Rat.natCast_add] using h3
      have := Rat.natCast_le_natCast.1 h4
      omega
  refine ⟨p, c, rfl, hpB, hcB, ?_⟩
  rw [← hp]
  refine ⟨?_, hhi, q1, q2, ?_⟩
  · by_cases h0 : p = 0
    · exact .inl h0
    · exact .inr (hlo (by omega))
  · intro h
    apply s3
    have inj : ∀ {a b : Nat}, (a : Rat) = (b : Rat) → a = b := fun h => Nat.le_antisymm (Rat.natCast_le_natCast.1 (by grind)) (Rat.natCast_le_natCast.1 (by grind))
    have canc : ∀ {a b : Rat}, a * pw last = b * pw last → a = b := fun {a b} h => by
      have e1 := uu (a := a) (b := b) (by grind)
      have e2 := uu (a := b) (b := a) (by grind)
      grind
    rcases h with h | h
    · left
      apply inj
      rw [Rat.natCast_mul, Rat.natCast_mul, Rat.natCast_add, Rat.natCast_mul]
      apply canc
      have := congrArg (· * (g : Rat)) h
      grind
    · right
      apply inj
      rw [Rat.natCast_mul, Rat.natCast_mul, Rat.natCast_add, Rat.natCast_mul]
      apply canc
      have := congrArg (· * (g : Rat)) h
      grind

end Fl
end Go.Ev

/- Floats as rational numbers: the nearest rung. -/
set_option linter.unusedVariables false
namespace Go.Ev
open Ieee

namespace Fl
variable (f : Format)

theorem cast_pred {c : Nat} (h : c ≠ 0) : ((c - 1 : Nat) : Rat) = (c : Rat) - 1 := by
  have : ((c - 1 + 1 : Nat) : Rat) = ((c - 1 : Nat) : Rat) + 1 := by rw [Rat.natCast_add]; rfl
  rw [show c - 1 + 1 = c by omega] at this
  grind

/-- A rung is nearest to a number; between two, the even one. -/
structure Near (a : Rat) (r : Nat) : Prop where
  inf : r ≤ f.infRung
  lo : ∀ t, t ≤ f.infRung → mg f t ≤ a → t ≤ r
  hi : ∀ t, a ≤ mg f t → r ≤ t
  lt : ∀ t, t < f.infRung → 2 * a < mg f t + mg f (t + 1) → r ≤ t
  gt : ∀ t, t < f.infRung → mg f t + mg f (t + 1) < 2 * a → t + 1 ≤ r
  tie : ∀ t, t < f.infRung → 2 * a = mg f t + mg f (t + 1) → r = t + t % 2

variable {f}
theorem Near.mono {a b : Rat} {r s : Nat} (h1 : Near f a r) (h2 : Near f b s) (h : a ≤ b) : r ≤ s := by
  refine Nat.le_of_not_lt fun hlt => ?_
  have i1 := h1.inf
  have x1 : b < mg f (s + 1) := Rat.not_le.1 fun hc => by have := h2.lo _ (by omega) hc; omega
  have x2 : mg f (r - 1) < a := Rat.not_le.1 fun hc => by have := h1.hi _ hc; omega
  have x3 : mg f (r - 1) < mg f (s + 1) := by grind
  have x4 := lt_of_mg f x3
  have e : r = s + 1 := by omega
  subst e
  have y1 : ¬ 2 * a < mg f s + mg f (s + 1) := fun hc => by have := h1.lt s (by omega) hc; omega
  have y2 : ¬ mg f s + mg f (s + 1) < 2 * b := fun hc => by have := h2.gt s (by omega) hc; omega
  have z1 := h1.tie s (by omega) (by grind)
  have z2 := h2.tie s (by omega) (by grind)
  omega
theorem Near.exact {a : Rat} {r t : Nat} (h : Near f a r) (e : a = mg f t) (ht : t ≤ f.infRung) : r = t :=
  Nat.le_antisymm (h.hi t (by grind)) (h.lo t ht (by grind))

theorem rg_le_inf (m : Nat) (e : Int) : rg f m e ≤ f.infRung := by
  unfold rg
  split
  · omega
  · exact Nat.min_le_right _ _

theorem rg_near (hB : f.binade % 2 = 0) (m : Nat) (e : Int) : Near f ((m : Rat) * pw e) (rg f m e) := by
  by_cases hm : m = 0
  · subst hm
    have h0 : ((0 : Nat) : Rat) * pw e = 0 := Rat.zero_mul _
    have hr : rg f 0 e = 0 := by unfold rg; rw [if_pos rfl]
    rw [h0, hr]
    have pos : ∀ t, 0 < mg f (t + 1) := fun t => by rw [← mg_zero f]; exact mg_lt f (by omega)
    refine ⟨by omega, fun t _ h => ?_, fun t _ => by omega, fun t _ _ => by omega, fun t _ h => ?_, fun t _ h => ?_⟩
    · rw [← mg_zero f] at h; have := le_of_mg f h; omega
    · have := pos t; have := mg_nonneg f t; grind
    · have := pos t; have := mg_nonneg f t; grind
  obtain ⟨p, c, e1, h1, h2, h3, h4, h5, h6, h7⟩ := rg_scale f (e := e) hm
  have hinf := rg_le_inf (f := f) m e
  generalize rg f m e = r at *
  generalize (m : Rat) * pw e = a at *
  have hu := pw_pos (f.leastPlace + p)
  have b0 := B0 f
  have m1 : mg f (p * f.binade + c) = (c : Rat) * pw (f.leastPlace + p) := mg_at f p c h2 h1
  have eB : p * f.binade % 2 = 0 := by rw [Nat.mul_mod, hB]; simp
  -- below the rung
  have dn : ∀ t, t + 1 ≤ p * f.binade + c → mg f t + mg f (t + 1) ≤ 2 * a ∧ (mg f t + mg f (t + 1) = 2 * a → p * f.binade + c = t + 1 ∧ c % 2 = 0) := by
    intro t ht
    have m2 : mg f (t + 1) ≤ mg f (p * f.binade + c) := mg_le f ht
    have m5 : mg f t < mg f (t + 1) := mg_lt f (by omega)
    by_cases hc0 : c = 0
    · have : p = 0 := by omega
      subst this; subst hc0; omega
    · have hcm := cast_pred hc0
      by_cases hc : p = 0 ∨ f.binade ≤ c - 1
      · have m3 : mg f (p * f.binade + (c - 1)) = ((c : Rat) - 1) * pw (f.leastPlace + p) := by rw [mg_at f p (c - 1) (by omega) hc, hcm]
        have m4 : mg f t ≤ mg f (p * f.binade + (c - 1)) := mg_le f (by omega)
        refine ⟨by grind, fun he => ?_⟩
        have := mg_inj f (show mg f (t + 1) = mg f (p * f.binade + c) by grind)
        refine ⟨by omega, h7 (by right; grind)⟩
      · have hcB : c = f.binade := by omega
        rcases h3 with h3 | h3
        · omega
        · rw [← hcB] at h3
          exact ⟨by grind, fun he => by grind⟩
  -- above it
  have up : ∀ t, p * f.binade + c ≤ t → 2 * a ≤ mg f t + mg f (t + 1) ∧ (2 * a = mg f t + mg f (t + 1) → p * f.binade + c = t ∧ c % 2 = 0) := by
    intro t ht
    have m2 : mg f (p * f.binade + c) ≤ mg f t := mg_le f ht
    have m5 : mg f t < mg f (t + 1) := mg_lt f (by omega)
    by_cases hc : c + 1 ≤ 2 * f.binade
    · have m3 : mg f (p * f.binade + (c + 1)) = ((c : Rat) + 1) * pw (f.leastPlace + p) := by
        rw [mg_at f p (c + 1) hc (by omega), Rat.natCast_add]; rfl
      have m4 : mg f (p * f.binade + (c + 1)) ≤ mg f (t + 1) := mg_le f (by omega)
      refine ⟨by grind, fun he => ?_⟩
      have := mg_inj f (show mg f (p * f.binade + c) = mg f t by grind)
      refine ⟨by omega, h7 (by left; grind)⟩
    · have hcB : c = 2 * f.binade := by omega
      rw [hcB, Rat.natCast_mul] at m1
      have : ((2 : Nat) : Rat) = 2 := rfl
      exact ⟨by grind, fun he => by grind⟩
  have lo : ∀ t, t ≤ f.infRung → mg f t ≤ a → t ≤ r := by
    intro t ht h
    rw [e1]
    refine Nat.le_min.2 ⟨Nat.le_of_not_lt fun hlt => ?_, ht⟩
    have := (up (t - 1) (by omega)).1
    rw [show t - 1 + 1 = t by omega] at this
    have : mg f (t - 1) < mg f t := mg_lt f (by omega)
    grind
  have hi : ∀ t, a ≤ mg f t → r ≤ t := by
    intro t h
    rw [e1]
    refine Nat.le_trans (Nat.min_le_left _ _) (Nat.le_of_not_lt fun hlt => ?_)
    have := (dn t (by omega)).1
    have : mg f t < mg f (t + 1) := mg_lt f (by omega)
    grind
  refine ⟨hinf, lo, hi, fun t ht h => ?_, fun t ht h => ?_, fun t ht h => ?_⟩
  · refine Nat.le_of_not_lt fun hlt => ?_
    have := (dn t (by omega)).1
    grind
  · refine Nat.le_of_not_lt fun hlt => ?_
    have := (up t (by omega)).1
    grind
  · have m5 : mg f t < mg f (t + 1) := mg_lt f (by omega)
    have r1 := lo t (by omega) (by grind)
    have r2 := hi (t + 1) (by grind)
    by_cases e2 : r = t + 1
    · have := (dn t (by omega)).2 (by grind)
      omega
    · have := (up t (by omega)).2 (by grind)
      omega

end Fl
end Go.Ev

/- Floats as rational numbers: what words stand for, their order, and their operations. -/
set_option linter.unusedVariables false
set_option linter.unusedSimpArgs false
namespace Go.Ev
open Ieee

namespace Fl

theorem even_k (k : FloatKind) : k.format.binade % 2 = 0 := by cases k <;> decide
theorem sign_pos (k : FloatKind) : 0 < signOf k := by cases k <;> decide

/-- Has a word a minus? -/
def sg (k : FloatKind) (b : Nat) : Bool := b / signOf k % 2 == 1
def rung (k : FloatKind) (b : Nat) : Nat := b % signOf k
/-- A number with a sign. -/
def sgd (s : Bool) (q : Rat) : Rat := bif s then -q else q
theorem sgd_sgd (s : Bool) (q : Rat) : sgd s (sgd s q) = q := by cases s <;> simp [sgd, Rat.neg_neg]
/-- What a word stands for; an infinity stands for the next power of two. -/
def ev (k : FloatKind) (b : Nat) : Rat := sgd (sg k b) (mg k.format (rung k b))
def fin (k : FloatKind) (b : Nat) : Bool := Nat.blt (rung k b) (infOf k)
theorem fin_iff {k : FloatKind} {b : Nat} : fin k b = true ↔ rung k b < infOf k := by simp [fin, Nat.blt_eq]
theorem nan_false {k : FloatKind} {b : Nat} : nan k b = false ↔ rung k b ≤ infOf k := by
  have := nan_iff k b
  unfold rung
  cases h : nan k b
  · simp [h] at this ⊢; exact this
  · simp [h] at this ⊢; omega
theorem fin_nan {k : FloatKind} {b : Nat} (h : fin k b = true) : nan k b = false := by
  rw [nan_false]; rw [fin_iff] at h; omega

theorem read_fin {k : FloatKind} {b : Nat} (h : fin k b = true) : ∃ m e, k.format.read b = .number (sg k b) m e ∧ (m : Rat) * pw e = mg k.format (rung k b) := by
  rw [fin_iff] at h
  unfold Format.read
  simp only [sign_eq, inf_eq]
  unfold rung sg mg mgN at *
  by_cases h1 : b % signOf k < k.format.binade
  · rw [if_pos h1, if_pos h1]
    exact ⟨_, _, rfl, rfl⟩
  · rw [if_neg h1, if_neg h1, if_pos h]
    refine ⟨_, _, rfl, ?_⟩
    rw [pw_add, pw_nat, Rat.natCast_mul]
    grind
theorem read_inf {k : FloatKind} {b : Nat} (h : rung k b = infOf k) : k.format.read b = .infinity (sg k b) := by
  have := binade_le k
  unfold Format.read
  simp only [sign_eq, inf_eq]
  unfold rung sg at *
  rw [if_neg (by omega), if_neg (by omega), if_pos h]

theorem word_sg {k : FloatKind} {s : Bool} {r : Nat} (h : r ≤ infOf k) : sg k (k.format.word s r) = s ∧ rung k (k.format.word s r) = r ∧ k.format.word s r < 2 * signOf k := by
  have := inf_lt_sign k
  have s0 := sign_pos k
  unfold Format.word sg rung
  rw [sign_eq]
  cases s
  · simp only [Bool.false_eq_true, if_false]
    rw [Nat.div_eq_of_lt (by omega)]
    exact ⟨rfl, Nat.mod_eq_of_lt (by omega), by omega⟩
  · simp only [if_true]
    rw [Nat.add_div_left _ s0, Nat.div_eq_of_lt (by omega), Nat.add_mod_left]
    exact ⟨rfl, Nat.mod_eq_of_lt (by omega), by omega⟩
theorem word_of {k : FloatKind} {b : Nat} (h : b < 2 * signOf k) : k.format.word (sg k b) (rung k b) = b := by
  have s0 := sign_pos k
  unfold Format.word sg rung
  rw [sign_eq]
  have h1 := Nat.div_add_mod b (signOf k)
  have h2 : b / signOf k < 2 := (Nat.div_lt_iff_lt_mul s0).2 h
  by_cases h3 : b / signOf k = 0
  · simp only [h3, Nat.mul_zero, Nat.zero_add] at h1
    simp [h3, h1]
  · have h4 : b / signOf k = 1 := Nat.le_antisymm (Nat.le_of_lt_succ h2) (Nat.pos_of_ne_zero h3)
    simp only [h4, Nat.mul_one] at h1
    simp [h4, h1]
theorem ev_word {k : FloatKind} {s : Bool} {r : Nat} (h : r ≤ infOf k) : ev k (k.format.word s r) = sgd s (mg k.format r) := by
  unfold ev
  rw [(word_sg h).1, (word_sg h).2.1]

theorem near_self {f : Format} (hB : f.binade % 2 = 0) {r : Nat} (h : r ≤ f.infRung) : Near f (mg f r) r := by
  have h1 := rg_near hB (mgN f r) f.leastPlace
  have h2 := h1.exact (t := r) rfl h
  rw [h2] at h1
  exact h1

/-- A word is what a number is rounded to. -/
def Rnd (k : FloatKind) (q : Rat) (b : Nat) : Prop := ∃ s r, b = k.format.word s r ∧ 0 ≤ sgd s q ∧ Near k.format (sgd s q) r

theorem Rnd.of {k : FloatKind} {s : Bool} {m : Nat} {e : Int} {q : Rat} (h : sgd s ((m : Rat) * pw e) = q) : Rnd k q (k.format.nearest s m e) := by
  refine ⟨s, rg k.format m e, nearest_eq _ _ _ _, ?_, ?_⟩
  · rw [← h, sgd_sgd]
    exact Rat.mul_nonneg Rat.natCast_nonneg (Rat.le_of_lt (pw_pos _))
  · rw [← h, sgd_sgd]
    exact rg_near (even_k k) m e
theorem Rnd.nan {k : FloatKind} {q : Rat} {b : Nat} (h : Rnd k q b) : nan k b = false := by
  obtain ⟨s, r, rfl, _, h1⟩ := h
  exact nan_word s (inf_eq k ▸ h1.inf)
theorem Rnd.lt2 {k : FloatKind} {q : Rat} {b : Nat} (h : Rnd k q b) : b < 2 * signOf k := by
  obtain ⟨s, r, rfl, _, h1⟩ := h
  exact (word_sg (inf_eq k ▸ h1.inf)).2.2
theorem rnd_self {k : FloatKind} {b : Nat} (h : nan k b = false) (h2 : b < 2 * signOf k) : Rnd k (ev k b) b := by
  rw [nan_false] at h
  refine ⟨sg k b, rung k b, (word_of h2).symm, ?_, ?_⟩
  · unfold ev; rw [sgd_sgd]; exact mg_nonneg _ _
  · unfold ev; rw [sgd_sgd]; exact near_self (even_k k) (by rw [inf_eq]; exact h)
theorem Rnd.mono {k : FloatKind} {q q' : Rat} {b b' : Nat} (h : Rnd k q b) (h' : Rnd k q' b') (hq : q ≤ q') : ev k b ≤ ev k b' := by
  obtain ⟨s, r, rfl, p1, n1⟩ := h
  obtain ⟨s', r', rfl, p2, n2⟩ := h'
  have i1 := n1.inf
  have i2 := n2.inf
  rw [inf_eq] at i1 i2
  rw [ev_word i1, ev_word i2]
  have a1 := mg_nonneg k.format r
  have a2 := mg_nonneg k.format r'
  cases s <;> cases s' <;> simp only [sgd, cond_true, cond_false] at *
  · exact mg_le _ (n1.mono n2 hq)
  · have e1 : q = 0 := by grind
    have e2 : q' = 0 := by grind
    subst e1
    have z1 : r = 0 := by have := n1.hi 0 (by rw [mg_zero]; grind); omega
    have z2 : r' = 0 := by have := n2.hi 0 (by rw [mg_zero]; grind); omega
    subst z1; subst z2
    rw [mg_zero]; grind
  · grind
  · have := mg_le k.format (n2.mono n1 (by grind))
    grind
theorem Rnd.exact {k : FloatKind} {q : Rat} {b w : Nat} (h : Rnd k q b) (hw : Go.Ev.nan k w = false) (hw2 : w < 2 * signOf k) (e : q = ev k w) : ev k b = ev k w := by
  have h2 := rnd_self hw hw2
  have a := h.mono h2 (by grind)
  have b := h2.mono h (by grind)
  grind
theorem Rnd.le {k : FloatKind} {q : Rat} {b w : Nat} (h : Rnd k q b) (hw : Go.Ev.nan k w = false) (hw2 : w < 2 * signOf k) (e : q ≤ ev k w) : ev k b ≤ ev k w := h.mono (rnd_self hw hw2) e
theorem Rnd.ge {k : FloatKind} {q : Rat} {b w : Nat} (h : Rnd k q b) (hw : Go.Ev.nan k w = false) (hw2 : w < 2 * signOf k) (e : ev k w ≤ q) : ev k w ≤ ev k b := (rnd_self hw hw2).mono h e

theorem ev_inj {k : FloatKind} {x y : Nat} (hx : x < 2 * signOf k) (hy : y < 2 * signOf k) (h : ev k x = ev k y) (h0 : ev k x ≠ 0) : x = y := by
  have e1 := word_of hx
  have e2 := word_of hy
  have a1 := mg_nonneg k.format (rung k x)
  have a2 := mg_nonneg k.format (rung k y)
  unfold ev at h h0
  have hs : sg k x = sg k y := by
    cases s1 : sg k x <;> cases s2 : sg k y <;> simp only [s1, s2, sgd, cond_true, cond_false] at h h0 <;> first | rfl | (exfalso; grind)
  have hr : rung k x = rung k y := by
    apply mg_inj k.format
    rw [hs] at h
    have := congrArg (sgd (sg k y)) h
    rwa [sgd_sgd, sgd_sgd] at this
  rw [← e1, ← e2, hs, hr]
theorem ev_zero {k : FloatKind} {x : Nat} (hx : x < 2 * signOf k) : ev k x = 0 ↔ x = 0 ∨ x = signOf k := by
  have e1 := word_of hx
  unfold ev
  constructor
  · intro h
    have h0 : mg k.format (rung k x) = mg k.format 0 := by
      rw [mg_zero]
      cases e : sg k x <;> rw [e] at h
      · exact h
      · have h : -mg k.format (rung k x) = 0 := h
        grind
    have := mg_inj k.format h0
    rw [this] at e1
    unfold Format.word at e1
    rw [sign_eq] at e1
    cases s : sg k x <;> simp only [s, Bool.false_eq_true, if_false, if_true] at e1
    · exact .inl e1.symm
    · exact .inr e1.symm
  · intro h
    have : rung k x = 0 := by
      unfold rung
      rcases h with rfl | rfl
      · exact Nat.zero_mod _
      · exact Nat.mod_self _
    rw [this, mg_zero]
    cases sg k x <;> simp [sgd]

/-! ### order -/
def cmpQ (x y : Rat) : Ordering := if x < y then .lt else if x = y then .eq else .gt
theorem cmpQ_lt {x y : Rat} (h : x < y) : cmpQ x y = .lt := by unfold cmpQ; rw [if_pos h]
theorem cmpQ_eq {x y : Rat} (h : x = y) : cmpQ x y = .eq := by
  subst h; unfold cmpQ; rw [if_neg Rat.lt_irrefl, if_pos rfl]
theorem cmpQ_gt {x y : Rat} (h : y < x) : cmpQ x y = .gt := by
  unfold cmpQ; rw [if_neg (by grind), if_neg (by grind)]
theorem compare_rat {a b : Int} {x y u : Rat} (hu : 0 < u) (ha : (a : Rat) * u = x) (hb : (b : Rat) * u = y) : compare a b = cmpQ x y := by
  subst ha; subst hb
  rcases Int.lt_trichotomy a b with h | h | h
  · rw [cmpQ_lt (Rat.mul_lt_mul_of_pos_right (Rat.intCast_lt_intCast.2 h) hu)]
    exact Int.compare_eq_lt.2 h
  · subst h
    rw [cmpQ_eq rfl]
    exact Int.compare_eq_eq.2 rfl
  · rw [cmpQ_gt (Rat.mul_lt_mul_of_pos_right (Rat.intCast_lt_intCast.2 h) hu)]
    exact Int.compare_eq_gt.2 h
theorem signed_rat (s : Bool) (m : Nat) (i b : Int) (h : b ≤ i) : ((signed s m (i - b).toNat : Int) : Rat) * pw b = sgd s ((m : Rat) * pw i) := by
  have e : ((m <<< (i - b).toNat : Nat) : Rat) * pw b = (m : Rat) * pw i := by
    rw [Nat.shiftLeft_eq, Rat.natCast_mul, ← pw_nat, Rat.mul_assoc, ← pw_add]
    congr 2
    omega
  unfold signed
  cases s
  · show (((m <<< (i - b).toNat : Nat) : Int) : Rat) * pw b = (m : Rat) * pw i
    rw [← e]; rfl
  · show ((-((m <<< (i - b).toNat : Nat) : Int) : Int) : Rat) * pw b = -((m : Rat) * pw i)
    rw [← e, Rat.intCast_neg, Rat.neg_mul]; rfl

theorem order_ev {k : FloatKind} {x y : Nat} (hx : nan k x = false) (hy : nan k y = false) :
    k.format.order x y = some (cmpQ (ev k x) (ev k y)) := by
  rw [nan_false] at hx hy
  unfold Format.order
  have ltinf : ∀ r, r < infOf k → mg k.format r < mg k.format (infOf k) := fun r h => mg_lt _ h
  have nn := mg_nonneg k.format
  have i0 : 0 < mg k.format (infOf k) := by
    have : mg k.format 0 < mg k.format (infOf k) := mg_lt _ (by cases k <;> decide)
    rwa [mg_zero] at this
  have ev_t : ∀ {b}, sg k b = true → ev k b = -mg k.format (rung k b) := fun h => by unfold ev; rw [h]; rfl
  have ev_f : ∀ {b}, sg k b = false → ev k b = mg k.format (rung k b) := fun h => by unfold ev; rw [h]; rfl
  by_cases fx : rung k x = infOf k <;> by_cases fy : rung k y = infOf k
  · rw [read_inf fx, read_inf fy]
    cases s1 : sg k x <;> cases s2 : sg k y <;> simp only [Datum.order]
    · rw [ev_f s1, ev_f s2, fx, fy, cmpQ_eq rfl]; rfl
    · rw [ev_f s1, ev_t s2, fx, fy, cmpQ_gt (by grind)]; rfl
    · rw [ev_t s1, ev_f s2, fx, fy, cmpQ_lt (by grind)]; rfl
    · rw [ev_t s1, ev_t s2, fx, fy, cmpQ_eq rfl]; rfl
  · obtain ⟨m, e, h1, h2⟩ := read_fin (k := k) (b := y) (fin_iff.2 (by omega))
    rw [read_inf fx, h1]
    have := ltinf (rung k y) (by omega)
    have := nn (rung k y)
    cases s1 : sg k x <;> cases s2 : sg k y <;> simp only [Datum.order]
    · rw [ev_f s1, ev_f s2, fx, cmpQ_gt (by grind)]; rfl
    · rw [ev_f s1, ev_t s2, fx, cmpQ_gt (by grind)]; rfl
    · rw [ev_t s1, ev_f s2, fx, cmpQ_lt (by grind)]; rfl
    · rw [ev_t s1, ev_t s2, fx, cmpQ_lt (by grind)]; rfl
  · obtain ⟨m, e, h1, h2⟩ := read_fin (k := k) (b := x) (fin_iff.2 (by omega))
    rw [read_inf fy, h1]
    have := ltinf (rung k x) (by omega)
    have := nn (rung k x)
    cases s1 : sg k x <;> cases s2 : sg k y <;> simp only [Datum.order]
    · rw [ev_f s1, ev_f s2, fy, cmpQ_lt (by grind)]; rfl
    · rw [ev_f s1, ev_t s2, fy, cmpQ_gt (by grind)]; rfl
    · rw [ev_t s1, ev_f s2, fy, cmpQ_lt (by grind)]; rfl
    · rw [ev_t s1, ev_t s2, fy, cmpQ_gt (by grind)]; rfl
  · obtain ⟨m, e, h1, h2⟩ := read_fin (k := k) (b := x) (fin_iff.2 (by omega))
    obtain ⟨m', e', h1', h2'⟩ := read_fin (k := k) (b := y) (fin_iff.2 (by omega))
    rw [h1, h1']
    simp only [Datum.order]
    unfold ev
    rw [← h2, ← h2']
    exact congrArg some (compare_rat (pw_pos _) (signed_rat _ _ _ _ (Int.min_le_left _ _)) (signed_rat _ _ _ _ (Int.min_le_right _ _)))

section
variable {k : FloatKind} {x y : Nat}
theorem flt_ev (hx : nan k x = false) (hy : nan k y = false) : flt k x y = decide (ev k x < ev k y) := by
  unfold flt; rw [order_ev hx hy]
  by_cases h : ev k x < ev k y
  · rw [cmpQ_lt h]
    first | rw [decide_eq_true (by grind)]; rfl | rw [decide_eq_false (by grind)]; rfl
  · by_cases h' : ev k x = ev k y
    · rw [cmpQ_eq h']
      first | rw [decide_eq_true (by grind)]; rfl | rw [decide_eq_false (by grind)]; rfl
    · rw [cmpQ_gt (by grind)]
      first | rw [decide_eq_true (by grind)]; rfl | rw [decide_eq_false (by grind)]; rfl
theorem feq_ev (hx : nan k x = false) (hy : nan k y = false) : feq k x y = decide (ev k x = ev k y) := by
  unfold feq; rw [order_ev hx hy]
  by_cases h : ev k x < ev k y
  · rw [cmpQ_lt h]
    first | rw [decide_eq_true (by grind)]; rfl | rw [decide_eq_false (by grind)]; rfl
  · by_cases h' : ev k x = ev k y
    · rw [cmpQ_eq h']
      first | rw [decide_eq_true (by grind)]; rfl | rw [decide_eq_false (by grind)]; rfl
    · rw [cmpQ_gt (by grind)]
      first | rw [decide_eq_true (by grind)]; rfl | rw [decide_eq_false (by grind)]; rfl
theorem fle_ev (hx : nan k x = false) (hy : nan k y = false) : fle k x y = decide (ev k x ≤ ev k y) := by
  unfold fle; rw [order_ev hx hy]
  by_cases h : ev k x < ev k y
  · rw [cmpQ_lt h]
    first | rw [decide_eq_true (by grind)]; rfl | rw [decide_eq_false (by grind)]; rfl
  · by_cases h' : ev k x = ev k y
    · rw [cmpQ_eq h']
      first | rw [decide_eq_true (by grind)]; rfl | rw [decide_eq_false (by grind)]; rfl
    · rw [cmpQ_gt (by grind)]
      first | rw [decide_eq_true (by grind)]; rfl | rw [decide_eq_false (by grind)]; rfl
theorem fgt_ev (hx : nan k x = false) (hy : nan k y = false) : fgt k x y = decide (ev k y < ev k x) := by
  unfold fgt; rw [order_ev hx hy]
  by_cases h : ev k x < ev k y
  · rw [cmpQ_lt h]
    first | rw [decide_eq_true (by grind)]; rfl | rw [decide_eq_false (by grind)]; rfl
  · by_cases h' : ev k x = ev k y
    · rw [cmpQ_eq h']
      first | rw [decide_eq_true (by grind)]; rfl | rw [decide_eq_false (by grind)]; rfl
    · rw [cmpQ_gt (by grind)]
      first | rw [decide_eq_true (by grind)]; rfl | rw [decide_eq_false (by grind)]; rfl
theorem fge_ev (hx : nan k x = false) (hy : nan k y = false) : fge k x y = decide (ev k y ≤ ev k x) := by
  unfold fge; rw [order_ev hx hy]
  by_cases h : ev k x < ev k y
  · rw [cmpQ_lt h]
    first | rw [decide_eq_true (by grind)]; rfl | rw [decide_eq_false (by grind)]; rfl
  · by_cases h' : ev k x = ev k y
    · rw [cmpQ_eq h']
      first | rw [decide_eq_true (by grind)]; rfl | rw [decide_eq_false (by grind)]; rfl
    · rw [cmpQ_gt (by grind)]
      first | rw [decide_eq_true (by grind)]; rfl | rw [decide_eq_false (by grind)]; rfl
theorem order_nan (h : nan k x = true ∨ nan k y = true) : k.format.order x y = none := by
  unfold Format.order
  rcases h with h | h
  · obtain ⟨s, t, e⟩ := read_nan h; rw [e]; exact order_nan_l _ _ _
  · obtain ⟨s, t, e⟩ := read_nan h; rw [e]; exact order_nan_r _ _ _
theorem feq_nan (h : nan k x = true ∨ nan k y = true) : feq k x y = false := by unfold feq; rw [order_nan h]; rfl
/-! ### sums and products -/
theorem sgd_mul (s t : Bool) (a b : Rat) : sgd (s ^^ t) (a * b) = sgd s a * sgd t b := by
  cases s <;> cases t <;> simp [sgd, Rat.neg_mul, Rat.mul_neg, Rat.neg_neg]
theorem fmul_rnd (hx : fin k x = true) (hy : fin k y = true) : Rnd k (ev k x * ev k y) (fmul k x y) := by
  obtain ⟨m, e, h1, h2⟩ := read_fin hx
  obtain ⟨m', e', h1', h2'⟩ := read_fin hy
  unfold fmul Format.mul
  rw [h1, h1']
  simp only [Datum.product, Option.map_some, orNan, Format.write]
  apply Rnd.of
  unfold ev
  rw [← h2, ← h2', ← sgd_mul, pw_add, Rat.natCast_mul]
  congr 1
  grind
theorem fadd_core {s t : Bool} {m n : Nat} {i j : Int} :
    ∃ d, (Datum.number s m i).sum (.number t n j) = some d ∧ Rnd k (sgd s ((m : Rat) * pw i) + sgd t ((n : Rat) * pw j)) (k.format.write d) ∧
      (sgd s ((m : Rat) * pw i) + sgd t ((n : Rat) * pw j) = 0 → k.format.write d = k.format.word (s && t) 0) := by
  refine ⟨_, rfl, ?_, ?_⟩
  · simp only [Format.write]
    apply Rnd.of
    have e1 := signed_rat s m i (min i j) (Int.min_le_left _ _)
    have e2 := signed_rat t n j (min i j) (Int.min_le_right _ _)
    rw [← e1, ← e2, ← Rat.add_mul, ← Rat.intCast_add]
    generalize signed s m (i - min i j).toNat + signed t n (j - min i j).toNat = total
    by_cases h0 : total = 0
    · subst h0
      simp only [if_true, Int.natAbs_zero]
      have : ((0 : Nat) : Rat) * pw (min i j) = 0 := Rat.zero_mul _
      rw [this, Rat.intCast_zero, Rat.zero_mul]
      cases s && t <;> simp [sgd]
    · rw [if_neg h0]
      by_cases h : total < 0
      · rw [decide_eq_true h]
        simp only [sgd, cond_true]
        rw [← Rat.neg_mul]
        congr 1
        have : total = -(total.natAbs : Int) := by omega
        rw [this, Rat.intCast_neg, Int.natAbs_neg, Int.natAbs_natCast]
        rfl
      · rw [decide_eq_false h]
        simp only [sgd, cond_false]
        congr 1
        have : total = (total.natAbs : Int) := by omega
        rw [this, Int.natAbs_natCast]
        rfl
  · intro h
    have e1 := signed_rat s m i (min i j) (Int.min_le_left _ _)
    have e2 := signed_rat t n j (min i j) (Int.min_le_right _ _)
    rw [← e1, ← e2, ← Rat.add_mul, ← Rat.intCast_add] at h
    simp only [Format.write]
    generalize signed s m (i - min i j).toNat + signed t n (j - min i j).toNat = total at *
    have : total = 0 := by
      rcases Rat.mul_eq_zero.1 h with h | h
      · exact_mod_cast h
      · have := pw_pos (min i j); grind
    subst this
    simp [Format.nearest]
theorem fadd_rnd (hx : fin k x = true) (hy : fin k y = true) : Rnd k (ev k x + ev k y) (fadd k x y) := by
  obtain ⟨m, e, h1, h2⟩ := read_fin hx
  obtain ⟨m', e', h1', h2'⟩ := read_fin hy
  obtain ⟨d, g1, g2, _⟩ := fadd_core (k := k) (s := sg k x) (t := sg k y) (m := m) (n := m') (i := e) (j := e')
  unfold fadd Format.add
  rw [h1, h1', g1]
  unfold ev
  rw [← h2, ← h2']
  exact g2
theorem sgd_not (s : Bool) (q : Rat) : sgd (!s) q = -sgd s q := by cases s <;> simp [sgd, Rat.neg_neg]
theorem fsub_rnd (hx : fin k x = true) (hy : fin k y = true) : Rnd k (ev k x - ev k y) (fsub k x y) := by
  obtain ⟨m, e, h1, h2⟩ := read_fin hx
  obtain ⟨m', e', h1', h2'⟩ := read_fin hy
  obtain ⟨d, g1, g2, _⟩ := fadd_core (k := k) (s := sg k x) (t := !sg k y) (m := m) (n := m') (i := e) (j := e')
  unfold fsub Format.sub
  rw [h1, h1']
  simp only [Datum.opposite]
  rw [g1]
  unfold ev
  rw [← h2, ← h2']
  rw [sgd_not, ← Rat.sub_eq_add_neg] at g2
  exact g2
end

/-! ### other kinds -/
end Fl
end Go.Ev

