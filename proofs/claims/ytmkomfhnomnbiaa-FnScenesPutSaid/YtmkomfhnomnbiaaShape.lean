/- Shapes: when they are valid. -/
import Derived.Test.YtmkomfhnomnbiaaIdx
import Derived.Test.YtmkomfhnomnbiaaVec
set_option linter.unusedVariables false
set_option linter.unusedSimpArgs false
set_option maxRecDepth 100000
namespace Go.Proofs.Ytmkomfhnomnbiaa
open Go.Ev
abbrev tN : Ty := .pair tI (.pair tI (.pair tI (.slice tF)))
abbrev NodeD := Int × Int × Int × List Nat
abbrev tR : Ty := .pair tI (.pair tI (.pair .bool tI))

/-! plain -/
--B inR Int → Int → Int → Bool
def inR (n lo hi : Int) : Bool := decide (n ≥ lo) && decide (n ≤ hi)
theorem inR_iff {n lo hi : Int} : inR n lo hi = true ↔ lo ≤ n ∧ n ≤ hi := by simp [inR]
def kindL : List (Int × Int × Bool × Int) := [(1, 0, false, 1), (3, 0, false, 1), (2, 0, false, 1), (2, 0, false, 1), (4, 0, false, 0), (0, 2, false, 0), (0, 2, false, 0), (0, 2, false, 0), (1, 2, false, 2), (3, 1, false, 0), (1, 1, false, 2), (3, 1, false, 2), (1, 1, true, 0), (0, 1, true, 0), (1, 1, true, 2), (1, 1, false, 0), (1, 1, false, 1)]
def isK (k : Int) : Bool := inR k 0 16
--B kindN Int → Int
--B kindC Int → Int
--B kindA Int → Bool
--B kindS Int → Int
def kindV (k : Int) : Int × Int × Bool × Int := bif isK k then (kindL[k.toNat]?).getD (0, 0, false, 0) else (0, 0, false, 0)
def kindN (k : Int) : Int := (kindV k).1
def kindC (k : Int) : Int := (kindV k).2.1
def kindA (k : Int) : Bool := (kindV k).2.2.1
def kindS (k : Int) : Int := (kindV k).2.2.2
theorem kinds {k : Int} (h : isK k = true) : k = 0 ∨ k = 1 ∨ k = 2 ∨ k = 3 ∨ k = 4 ∨ k = 5 ∨ k = 6 ∨ k = 7 ∨ k = 8 ∨ k = 9 ∨ k = 10 ∨ k = 11 ∨ k = 12 ∨ k = 13 ∨ k = 14 ∨ k = 15 ∨ k = 16 := by
  have := inR_iff.1 h
  omega
theorem kindV_no {k : Int} (h : isK k = false) : kindV k = (0, 0, false, 0) := by unfold kindV; rw [h]; rfl
theorem isK_ne {k : Int} (h : isK k = false) {j : Int} (hj : 0 ≤ j ∧ j ≤ 16) : (k == j) = false := by
  refine beq_eq_false_iff_ne.2 fun e => ?_
  subst e
  rw [show isK k = true from inR_iff.2 hj] at h
  cases h

def finN (x : Nat) : Bool := feq FloatKind.f32 (fsub FloatKind.f32 x x) 0
def sgnB (s : Int) (x : Nat) : Bool := (s == 1 && flt FloatKind.f32 x 0) || (s == 2 && fle FloatKind.f32 x 0)
--B numsB Int → List Nat → Bool
def numsB (k : Int) (xs : List Nat) : Bool := isK k && ((xs.length : Int) == kindN k && (!xs.any (fun x => !finN x) && !xs.any (fun x => sgnB (kindS k) x)))
--B axB Int → Int → Int → Bool
def axB (k a b : Int) : Bool := (decide (kindC k > 0) || a == 0) && (kindC k == 2 || (b == 0 || (kindA k && inR b 0 2)))
theorem kindC_range (k : Int) : 0 ≤ kindC k ∧ kindC k ≤ 2 := by
  cases hk : isK k with
  | true => rcases kinds hk with e | e | e | e | e | e | e | e | e | e | e | e | e | e | e | e | e <;> subst e <;> decide
  | false => simp only [kindC, kindV_no hk]; decide
--B kids Int → Int → Int → List Int
def kids (k a b : Int) : List Int := [a, b].take (kindC k).toNat

/-! plain: uses of nodes -/
abbrev kidsN (n : NodeD) : List Int := kids n.1 n.2.1 n.2.2.1
--B nodeB Int → NodeD → Bool
def nodeB (i : Int) (n : NodeD) : Bool := numsB n.1 n.2.2.2 && (axB n.1 n.2.1 n.2.2.1 && (kidsN n).all (fun c => inR c 0 (i - 1)))
def inc1 (u : List Int) (c : Int) : List Int := u.set c.toNat (((u[c.toNat]?).getD 0) + 1)
def incs (u cs : List Int) : List Int := cs.foldl inc1 u
def usesOf (ns : List NodeD) (u : List Int) : List Int := ns.foldl (fun u n => incs u (kidsN n)) u
def nodesB (ns : List NodeD) : Bool := (List.range ns.length).all fun i => match ns[i]? with | some n => nodeB i n | none => true
def usesAt (ns : List NodeD) (i : Nat) : List Int := usesOf (ns.take i) (List.replicate ns.length 0)
--B validS List NodeD → Bool
def validS (ns : List NodeD) : Bool := inR ns.length 1 16 && (nodesB ns && ((usesAt ns ns.length).take (ns.length - 1)).all (fun x => x == 1))
def OkUp (ns : List NodeD) (i : Nat) : Prop := ∀ (j : Nat) (n : NodeD), j < i → ns[j]? = some n → nodeB j n = true
theorem okUp_all {ns : List NodeD} (h : OkUp ns ns.length) : nodesB ns = true := by
  refine List.all_eq_true.2 fun j hj => ?_
  cases e : ns[j]? with
  | none => rfl
  | some n => exact h j n (lt_of_get e) e
theorem valid_no {ns : List NodeD} {i : Nat} (hi : i < ns.length) (h : nodeB i (ns[i]'hi) = false) : validS ns = false := by
  have : nodesB ns = false := by
    refine List.all_eq_false.2 ⟨i, by simpa using hi, ?_⟩
    rw [get_lt hi]
    simp [h]
  unfold validS
  rw [this, Bool.false_and, Bool.and_false]
theorem okUp_succ {ns : List NodeD} {i : Nat} (hi : i < ns.length) (h : OkUp ns i) (hn : nodeB i (ns[i]'hi) = true) : OkUp ns (i + 1) := by
  intro j n hj e
  by_cases h' : j < i
  · exact h j n h' e
  · have : j = i := by omega
    subst this
    rw [get_lt hi] at e
    cases e
    exact hn
theorem usesAt_succ {ns : List NodeD} {i : Nat} (hi : i < ns.length) : usesAt ns (i + 1) = incs (usesAt ns i) (kidsN (ns[i]'hi)) := by
  unfold usesAt usesOf
  rw [take_one hi, List.foldl_append]
  rfl
theorem incs_take (u : List Int) {cs : List Int} {j : Nat} (hj : j < cs.length) : incs u (cs.take (j + 1)) = inc1 (incs u (cs.take j)) (cs[j]'hj) := by
  unfold incs
  rw [take_one hj, List.foldl_append]
  rfl
theorem inc1_facts {u : List Int} {c : Int} {B : Int} {i : Nat} (hc : 0 ≤ c ∧ c < i) (hu : ∀ x ∈ u, 0 ≤ x ∧ x ≤ B) (hB : 0 ≤ B) :
    (inc1 u c).length = u.length ∧ (∀ x ∈ inc1 u c, 0 ≤ x ∧ x ≤ B + 1) ∧ (∀ p, i ≤ p → (inc1 u c)[p]? = u[p]?) := by
  unfold inc1
  refine ⟨List.length_set, fun x hx => ?_, fun p hp => ?_⟩
  · rcases List.mem_or_eq_of_mem_set hx with h | h
    · have := hu x h; omega
    · subst h
      cases e : u[c.toNat]? with
      | none => simp; omega
      | some y => have := hu y (List.mem_of_getElem? e); simp; omega
  · rw [List.getElem?_set_ne (by omega)]
theorem incs_facts {i : Nat} : ∀ (cs : List Int) {u : List Int} {B : Int}, (∀ c ∈ cs, 0 ≤ c ∧ c < i) → (∀ x ∈ u, 0 ≤ x ∧ x ≤ B) → 0 ≤ B →
    (incs u cs).length = u.length ∧ (∀ x ∈ incs u cs, 0 ≤ x ∧ x ≤ B + cs.length) ∧ (∀ p, i ≤ p → (incs u cs)[p]? = u[p]?)
  | [], u, B, _, hu, hB => ⟨rfl, fun x hx => by have := hu x hx; simp; omega, fun _ _ => rfl⟩
  | c :: cs, u, B, hc, hu, hB => by
    obtain ⟨h1, h2, h3⟩ := inc1_facts (hc c (by simp)) hu hB
    obtain ⟨k1, k2, k3⟩ := incs_facts cs (u := inc1 u c) (B := B + 1) (fun c' hc' => hc c' (by simp [hc'])) h2 (by omega)
    refine ⟨k1.trans h1, fun x hx => ?_, fun p hp => (k3 p hp).trans (h3 p hp)⟩
    have := k2 x hx
    rw [List.length_cons]
    omega
theorem nodeB_kids {i : Int} {n : NodeD} (h : nodeB i n = true) : ∀ c ∈ kidsN n, 0 ≤ c ∧ c ≤ i - 1 := by
  unfold nodeB at h
  simp only [Bool.and_eq_true] at h
  intro c hc
  exact inR_iff.1 (List.all_eq_true.1 h.2.2 c hc)
theorem kids_len (n : NodeD) : (kidsN n).length ≤ 2 := by simp only [kidsN, kids, List.length_take, List.length_cons, List.length_nil]; omega
theorem uses_facts {ns : List NodeD} : ∀ (i : Nat), i ≤ ns.length → OkUp ns i →
    (usesAt ns i).length = ns.length ∧ (∀ x ∈ usesAt ns i, 0 ≤ x ∧ x ≤ 2 * (i : Int)) ∧ (∀ p x, i ≤ p + 1 → (usesAt ns i)[p]? = some x → x = 0)
  | 0, _, _ => by
    refine ⟨by simp [usesAt, usesOf], fun x hx => ?_, fun p x _ hx => ?_⟩
    · simp only [usesAt, usesOf, List.take_zero, List.foldl_nil, List.mem_replicate] at hx
      omega
    · simp only [usesAt, usesOf, List.take_zero, List.foldl_nil, List.getElem?_replicate] at hx
      split at hx
      · cases hx; rfl
      · cases hx
  | i + 1, hi, hok => by
    have hlt : i < ns.length := by omega
    obtain ⟨h1, h2, h3⟩ := uses_facts i (by omega) fun j n hj => hok j n (by omega)
    have hn := hok i _ (Nat.lt_succ_self i) (get_lt hlt)
    obtain ⟨k1, k2, k3⟩ := incs_facts (i := i) (kidsN (ns[i]'hlt)) (u := usesAt ns i) (B := 2 * (i : Int)) (fun c hc => by have := nodeB_kids hn c hc; omega) h2 (by omega)
    rw [usesAt_succ hlt]
    refine ⟨k1.trans h1, fun x hx => ?_, fun p x hp hx => ?_⟩
    · have := k2 x hx
      have := kids_len (ns[i]'hlt)
      omega
    · rw [k3 p (by omega)] at hx
      exact h3 p x (by omega) hx
theorem kind_cases {k : Int} (a b : Int) (h : isK k = true) : (inR k 0 4 = true ∧ inR k 5 8 = false ∧ kids k a b = []) ∨ (inR k 0 4 = false ∧ inR k 5 8 = false ∧ kids k a b = [a]) ∨ (inR k 0 4 = false ∧ inR k 5 8 = true ∧ kids k a b = [a, b]) := by
  rcases kinds h with e | e | e | e | e | e | e | e | e | e | e | e | e | e | e | e | e <;> subst e <;> first | exact .inl ⟨rfl, rfl, rfl⟩ | exact .inr (.inl ⟨rfl, rfl, rfl⟩) | exact .inr (.inr ⟨rfl, rfl, rfl⟩)
theorem kind_ax {k : Int} (a b : Int) (h : isK k = true) : (inR k 0 4 = true ∧ kids k a b = [] ∧ axB k a b = (a == 0 && b == 0)) ∨ (inR k 0 4 = false ∧ inR k 5 8 = false ∧ inR k 12 14 = false ∧ kids k a b = [a] ∧ axB k a b = (b == 0)) ∨
    (inR k 0 4 = false ∧ inR k 5 8 = false ∧ inR k 12 14 = true ∧ kids k a b = [a] ∧ axB k a b = inR b 0 2) ∨ (inR k 0 4 = false ∧ inR k 5 8 = true ∧ kids k a b = [a, b] ∧ axB k a b = true) := by
  have hb : (b == 0 || inR b 0 2) = inR b 0 2 := by
    by_cases e : b = 0
    · subst e; rfl
    · rw [beq_eq_false_iff_ne.2 e, Bool.false_or]
  have leaf : ∀ k, kindC k = 0 → kindA k = false → axB k a b = (a == 0 && b == 0) := by
    intro k h1 h2
    unfold axB
    rw [h1, h2]
    cases a == 0 <;> cases b == 0 <;> rfl
  have one : ∀ k, kindC k = 1 → kindA k = false → axB k a b = (b == 0) := by
    intro k h1 h2
    unfold axB
    rw [h1, h2]
    cases a == 0 <;> cases b == 0 <;> rfl
  have ax : ∀ k, kindC k = 1 → kindA k = true → axB k a b = inR b 0 2 := by
    intro k h1 h2
    unfold axB
    rw [h1, h2, ← hb]
    cases a == 0 <;> cases b == 0 <;> cases inR b 0 2 <;> rfl
  have two : ∀ k, kindC k = 2 → axB k a b = true := by
    intro k h1
    unfold axB
    rw [h1]
    cases a == 0 <;> rfl
  rcases kinds h with e | e | e | e | e | e | e | e | e | e | e | e | e | e | e | e | e <;> subst e <;> first
    | exact .inl ⟨rfl, rfl, leaf _ rfl rfl⟩
    | exact .inr (.inl ⟨rfl, rfl, rfl, rfl, one _ rfl rfl⟩)
    | exact .inr (.inr (.inl ⟨rfl, rfl, rfl, rfl, ax _ rfl rfl⟩))
    | exact .inr (.inr (.inr ⟨rfl, rfl, rfl, two _ rfl⟩))
theorem nodeB_isK {i : Int} {n : NodeD} (h : nodeB i n = true) : isK n.1 = true := by
  unfold nodeB numsB at h
  simp only [Bool.and_eq_true] at h
  exact h.1.1
theorem all_one (us : List Int) : (!us.any fun x => x != 1) = us.all fun x => x == 1 := by
  induction us with
  | nil => rfl
  | cons x us ih =>
    simp only [List.any_cons, List.all_cons, Bool.not_or, bne, Bool.not_not] at ih ⊢
    rw [ih]
theorem valid_last {ns : List NodeD} (h : inR ns.length 1 16 = true) (hok : OkUp ns ns.length) : validS ns = ((usesAt ns ns.length).take (ns.length - 1)).all (fun x => x == 1) := by
  unfold validS
  rw [h, okUp_all hok, Bool.true_and, Bool.true_and]

/-! impl.in -/
noncomputable def c_impl_in : Ctx := mkC Try.prog tyT [] [] [] 15 (fun _ => none) 0
theorem w_impl_in (n lo hi : Int) (K : V → Heap → Prop) : wpFn c_impl_in Try.f29 (encAs [.cell tI, .cell tI, .cell tI] (n, lo, hi, ())) [] K =
  cond (decide (n ≥ lo))
    (K (.bool (decide (n ≤ hi))) [])
    (K (.bool false) []) := by kernel_rfl
noncomputable def s_impl_in : Sm := semT [.cell tI, .cell tI, .cell tI] fun x => match x with | (n, lo, hi, _) => .bool (inR n lo hi)
theorem ok_impl_in : FnOk Try.prog 29 s_impl_in := fnOk_typed (fnOk_runC (C := c_impl_in) rfl mixed .nil .nil .nil Try.func29 (by kernel_rfl)) fun (x : ((Int) × (Int) × (Int) × Unit)) wf K h => by
  obtain ⟨n, lo, hi, ⟨⟩⟩ := x
  replace h : K (.bool (inR n lo hi)) [] := h
  rw [w_impl_in n lo hi K]
  revert h
  unfold inR
  cases decide (n ≥ lo) <;> exact id

/-! spec.l00In -/
noncomputable def c_spec_l00In : Ctx := mkC Try.prog tyT [] [] [] 15 (fun _ => none) 0
theorem w_spec_l00In (n lo hi : Int) (K : V → Heap → Prop) : wpFn c_spec_l00In Try.f74 (encAs [.cell tI, .cell tI, .cell tI] (n, lo, hi, ())) [] K =
  cond (decide (n ≥ lo))
    (K (.bool (decide (n ≤ hi))) [])
    (K (.bool false) []) := by kernel_rfl
noncomputable def s_spec_l00In : Sm := semT [.cell tI, .cell tI, .cell tI] fun x => match x with | (n, lo, hi, _) => .bool (inR n lo hi)
theorem ok_spec_l00In : FnOk Try.prog 74 s_spec_l00In := fnOk_typed (fnOk_runC (C := c_spec_l00In) rfl mixed .nil .nil .nil Try.func74 (by kernel_rfl)) fun (x : ((Int) × (Int) × (Int) × Unit)) wf K h => by
  obtain ⟨n, lo, hi, ⟨⟩⟩ := x
  replace h : K (.bool (inR n lo hi)) [] := h
  rw [w_spec_l00In n lo hi K]
  revert h
  unfold inR
  cases decide (n ≥ lo) <;> exact id

/-! impl.ruleOf -/
noncomputable def c_impl_ruleOf : Ctx := mkC Try.prog tyT [] [] [] 51 (fun _ => none) 0
theorem w_impl_ruleOf (k : Int) (K : V → Heap → Prop) : wpFn c_impl_ruleOf Try.f65 (encAs [.cell tI] (k, ())) [] K =
  cond (k == 0)
    (K (.tuple [(.agg [(.int .i64 1), (.int .i64 0), (.bool false), (.int .i64 1)]), (.bool true)]) [])
    (cond (k == 1)
      (K (.tuple [(.agg [(.int .i64 3), (.int .i64 0), (.bool false), (.int .i64 1)]), (.bool true)]) [])
      (cond (k == 2)
        (cond (k == 2)
          (K (.tuple [(.agg [(.int .i64 2), (.int .i64 0), (.bool false), (.int .i64 1)]), (.bool true)]) [])
          (cond (k == 4)
            (K (.tuple [(.agg [(.int .i64 4), (.int .i64 0), (.bool false), (.int .i64 0)]), (.bool true)]) [])
            (cond (k == 5)
              (cond (k == 5)
                (K (.tuple [(.agg [(.int .i64 0), (.int .i64 2), (.bool false), (.int .i64 0)]), (.bool true)]) [])
                (cond (k == 8)
                  (K (.tuple [(.agg [(.int .i64 1), (.int .i64 2), (.bool false), (.int .i64 2)]), (.bool true)]) [])
                  (cond (k == 9)
                    (K (.tuple [(.agg [(.int .i64 3), (.int .i64 1), (.bool false), (.int .i64 0)]), (.bool true)]) [])
                    (cond (k == 10)
                      (K (.tuple [(.agg [(.int .i64 1), (.int .i64 1), (.bool false), (.int .i64 2)]), (.bool true)]) [])
                      (cond (k == 11)
                        (K (.tuple [(.agg [(.int .i64 3), (.int .i64 1), (.bool false), (.int .i64 2)]), (.bool true)]) [])
                        (cond (k == 12)
                          (K (.tuple [(.agg [(.int .i64 1), (.int .i64 1), (.bool true), (.int .i64 0)]), (.bool true)]) [])
                          (cond (k == 13)
                            (K (.tuple [(.agg [(.int .i64 0), (.int .i64 1), (.bool true), (.int .i64 0)]), (.bool true)]) [])
                            (cond (k == 14)
                              (K (.tuple [(.agg [(.int .i64 1), (.int .i64 1), (.bool true), (.int .i64 2)]), (.bool true)]) [])
                              (cond (k == 15)
                                (K (.tuple [(.agg [(.int .i64 1), (.int .i64 1), (.bool false), (.int .i64 0)]), (.bool true)]) [])
                                (cond (k == 16)
                                  (K (.tuple [(.agg [(.int .i64 1), (.int .i64 1), (.bool false), (.int .i64 1)]), (.bool true)]) [])
                                  (K (.tuple [(.agg [(.int .i64 0), (.int .i64 0), (.bool false), (.int .i64 0)]), (.bool false)]) [])))))))))))
              (cond (k == 6)
                (cond (k == 6)
                  (K (.tuple [(.agg [(.int .i64 0), (.int .i64 2), (.bool false), (.int .i64 0)]), (.bool true)]) [])
                  (cond (k == 8)
                    (K (.tuple [(.agg [(.int .i64 1), (.int .i64 2), (.bool false), (.int .i64 2)]), (.bool true)]) [])
                    (cond (k == 9)
                      (K (.tuple [(.agg [(.int .i64 3), (.int .i64 1), (.bool false), (.int .i64 0)]), (.bool true)]) [])
                      (cond (k == 10)
                        (K (.tuple [(.agg [(.int .i64 1), (.int .i64 1), (.bool false), (.int .i64 2)]), (.bool true)]) [])
                        (cond (k == 11)
                          (K (.tuple [(.agg [(.int .i64 3), (.int .i64 1), (.bool false), (.int .i64 2)]), (.bool true)]) [])
                          (cond (k == 12)
                            (K (.tuple [(.agg [(.int .i64 1), (.int .i64 1), (.bool true), (.int .i64 0)]), (.bool true)]) [])
                            (cond (k == 13)
                              (K (.tuple [(.agg [(.int .i64 0), (.int .i64 1), (.bool true), (.int .i64 0)]), (.bool true)]) [])
                              (cond (k == 14)
                                (K (.tuple [(.agg [(.int .i64 1), (.int .i64 1), (.bool true), (.int .i64 2)]), (.bool true)]) [])
                                (cond (k == 15)
                                  (K (.tuple [(.agg [(.int .i64 1), (.int .i64 1), (.bool false), (.int .i64 0)]), (.bool true)]) [])
                                  (cond (k == 16)
                                    (K (.tuple [(.agg [(.int .i64 1), (.int .i64 1), (.bool false), (.int .i64 1)]), (.bool true)]) [])
                                    (K (.tuple [(.agg [(.int .i64 0), (.int .i64 0), (.bool false), (.int .i64 0)]), (.bool false)]) [])))))))))))
                (cond (k == 7)
                  (K (.tuple [(.agg [(.int .i64 0), (.int .i64 2), (.bool false), (.int .i64 0)]), (.bool true)]) [])
                  (cond (k == 8)
                    (K (.tuple [(.agg [(.int .i64 1), (.int .i64 2), (.bool false), (.int .i64 2)]), (.bool true)]) [])
                    (cond (k == 9)
                      (K (.tuple [(.agg [(.int .i64 3), (.int .i64 1), (.bool false), (.int .i64 0)]), (.bool true)]) [])
                      (cond (k == 10)
                        (K (.tuple [(.agg [(.int .i64 1), (.int .i64 1), (.bool false), (.int .i64 2)]), (.bool true)]) [])
                        (cond (k == 11)
                          (K (.tuple [(.agg [(.int .i64 3), (.int .i64 1), (.bool false), (.int .i64 2)]), (.bool true)]) [])
                          (cond (k == 12)
                            (K (.tuple [(.agg [(.int .i64 1), (.int .i64 1), (.bool true), (.int .i64 0)]), (.bool true)]) [])
                            (cond (k == 13)
                              (K (.tuple [(.agg [(.int .i64 0), (.int .i64 1), (.bool true), (.int .i64 0)]), (.bool true)]) [])
                              (cond (k == 14)
                                (K (.tuple [(.agg [(.int .i64 1), (.int .i64 1), (.bool true), (.int .i64 2)]), (.bool true)]) [])
                                (cond (k == 15)
                                  (K (.tuple [(.agg [(.int .i64 1), (.int .i64 1), (.bool false), (.int .i64 0)]), (.bool true)]) [])
                                  (cond (k == 16)
                                    (K (.tuple [(.agg [(.int .i64 1), (.int .i64 1), (.bool false), (.int .i64 1)]), (.bool true)]) [])
                                    (K (.tuple [(.agg [(.int .i64 0), (.int .i64 0), (.bool false), (.int .i64 0)]), (.bool false)]) [])))))))))))))))
        (cond (k == 3)
          (K (.tuple [(.agg [(.int .i64 2), (.int .i64 0), (.bool false), (.int .i64 1)]), (.bool true)]) [])
          (cond (k == 4)
            (K (.tuple [(.agg [(.int .i64 4), (.int .i64 0), (.bool false), (.int .i64 0)]), (.bool true)]) [])
            (cond (k == 5)
              (cond (k == 5)
                (K (.tuple [(.agg [(.int .i64 0), (.int .i64 2), (.bool false), (.int .i64 0)]), (.bool true)]) [])
                (cond (k == 8)
                  (K (.tuple [(.agg [(.int .i64 1), (.int .i64 2), (.bool false), (.int .i64 2)]), (.bool true)]) [])
                  (cond (k == 9)
                    (K (.tuple [(.agg [(.int .i64 3), (.int .i64 1), (.bool false), (.int .i64 0)]), (.bool true)]) [])
                    (cond (k == 10)
                      (K (.tuple [(.agg [(.int .i64 1), (.int .i64 1), (.bool false), (.int .i64 2)]), (.bool true)]) [])
                      (cond (k == 11)
                        (K (.tuple [(.agg [(.int .i64 3), (.int .i64 1), (.bool false), (.int .i64 2)]), (.bool true)]) [])
                        (cond (k == 12)
                          (K (.tuple [(.agg [(.int .i64 1), (.int .i64 1), (.bool true), (.int .i64 0)]), (.bool true)]) [])
                          (cond (k == 13)
                            (K (.tuple [(.agg [(.int .i64 0), (.int .i64 1), (.bool true), (.int .i64 0)]), (.bool true)]) [])
                            (cond (k == 14)
                              (K (.tuple [(.agg [(.int .i64 1), (.int .i64 1), (.bool true), (.int .i64 2)]), (.bool true)]) [])
                              (cond (k == 15)
                                (K (.tuple [(.agg [(.int .i64 1), (.int .i64 1), (.bool false), (.int .i64 0)]), (.bool true)]) [])
                                (cond (k == 16)
                                  (K (.tuple [(.agg [(.int .i64 1), (.int .i64 1), (.bool false), (.int .i64 1)]), (.bool true)]) [])
                                  (K (.tuple [(.agg [(.int .i64 0), (.int .i64 0), (.bool false), (.int .i64 0)]), (.bool false)]) [])))))))))))
              (cond (k == 6)
                (cond (k == 6)
                  (K (.tuple [(.agg [(.int .i64 0), (.int .i64 2), (.bool false), (.int .i64 0)]), (.bool true)]) [])
                  (cond (k == 8)
                    (K (.tuple [(.agg [(.int .i64 1), (.int .i64 2), (.bool false), (.int .i64 2)]), (.bool true)]) [])
                    (cond (k == 9)
                      (K (.tuple [(.agg [(.int .i64 3), (.int .i64 1), (.bool false), (.int .i64 0)]), (.bool true)]) [])
                      (cond (k == 10)
                        (K (.tuple [(.agg [(.int .i64 1), (.int .i64 1), (.bool false), (.int .i64 2)]), (.bool true)]) [])
                        (cond (k == 11)
                          (K (.tuple [(.agg [(.int .i64 3), (.int .i64 1), (.bool false), (.int .i64 2)]), (.bool true)]) [])
                          (cond (k == 12)
                            (K (.tuple [(.agg [(.int .i64 1), (.int .i64 1), (.bool true), (.int .i64 0)]), (.bool true)]) [])
                            (cond (k == 13)
                              (K (.tuple [(.agg [(.int .i64 0), (.int .i64 1), (.bool true), (.int .i64 0)]), (.bool true)]) [])
                              (cond (k == 14)
                                (K (.tuple [(.agg [(.int .i64 1), (.int .i64 1), (.bool true), (.int .i64 2)]), (.bool true)]) [])
                                (cond (k == 15)
                                  (K (.tuple [(.agg [(.int .i64 1), (.int .i64 1), (.bool false), (.int .i64 0)]), (.bool true)]) [])
                                  (cond (k == 16)
                                    (K (.tuple [(.agg [(.int .i64 1), (.int .i64 1), (.bool false), (.int .i64 1)]), (.bool true)]) [])
                                    (K (.tuple [(.agg [(.int .i64 0), (.int .i64 0), (.bool false), (.int .i64 0)]), (.bool false)]) [])))))))))))
                (cond (k == 7)
                  (K (.tuple [(.agg [(.int .i64 0), (.int .i64 2), (.bool false), (.int .i64 0)]), (.bool true)]) [])
                  (cond (k == 8)
                    (K (.tuple [(.agg [(.int .i64 1), (.int .i64 2), (.bool false), (.int .i64 2)]), (.bool true)]) [])
                    (cond (k == 9)
                      (K (.tuple [(.agg [(.int .i64 3), (.int .i64 1), (.bool false), (.int .i64 0)]), (.bool true)]) [])
                      (cond (k == 10)
                        (K (.tuple [(.agg [(.int .i64 1), (.int .i64 1), (.bool false), (.int .i64 2)]), (.bool true)]) [])
                        (cond (k == 11)
                          (K (.tuple [(.agg [(.int .i64 3), (.int .i64 1), (.bool false), (.int .i64 2)]), (.bool true)]) [])
                          (cond (k == 12)
                            (K (.tuple [(.agg [(.int .i64 1), (.int .i64 1), (.bool true), (.int .i64 0)]), (.bool true)]) [])
                            (cond (k == 13)
                              (K (.tuple [(.agg [(.int .i64 0), (.int .i64 1), (.bool true), (.int .i64 0)]), (.bool true)]) [])
                              (cond (k == 14)
                                (K (.tuple [(.agg [(.int .i64 1), (.int .i64 1), (.bool true), (.int .i64 2)]), (.bool true)]) [])
                                (cond (k == 15)
                                  (K (.tuple [(.agg [(.int .i64 1), (.int .i64 1), (.bool false), (.int .i64 0)]), (.bool true)]) [])
                                  (cond (k == 16)
                                    (K (.tuple [(.agg [(.int .i64 1), (.int .i64 1), (.bool false), (.int .i64 1)]), (.bool true)]) [])
                                    (K (.tuple [(.agg [(.int .i64 0), (.int .i64 0), (.bool false), (.int .i64 0)]), (.bool false)]) []))))))))))))))))) := by kernel_rfl
noncomputable def s_impl_ruleOf : Sm := semT [.cell tI] fun x => match x with | (k, _) => .tuple [.agg [.int .i64 (kindN k), .int .i64 (kindC k), .bool (kindA k), .int .i64 (kindS k)], .bool (isK k)]
theorem ok_impl_ruleOf : FnOk Try.prog 65 s_impl_ruleOf := fnOk_typed (fnOk_runC (C := c_impl_ruleOf) rfl mixed .nil .nil .nil Try.func65 (by kernel_rfl)) fun (x : ((Int) × Unit)) wf K h => by
  obtain ⟨k, ⟨⟩⟩ := x
  replace h : K (.tuple [.agg [.int .i64 (kindN k), .int .i64 (kindC k), .bool (kindA k), .int .i64 (kindS k)], .bool (isK k)]) [] := h
  rw [w_impl_ruleOf k K]
  cases hk : isK k with
  | true =>
    rw [hk] at h
    rcases kinds hk with e | e | e | e | e | e | e | e | e | e | e | e | e | e | e | e | e <;> subst e <;> exact h
  | false =>
    rw [hk] at h
    simp only [kindN, kindC, kindA, kindS, kindV_no hk] at h
    simp only [isK_ne hk (j := 0) (by decide), isK_ne hk (j := 1) (by decide), isK_ne hk (j := 2) (by decide), isK_ne hk (j := 3) (by decide), isK_ne hk (j := 4) (by decide), isK_ne hk (j := 5) (by decide), isK_ne hk (j := 6) (by decide), isK_ne hk (j := 7) (by decide), isK_ne hk (j := 8) (by decide), isK_ne hk (j := 9) (by decide), isK_ne hk (j := 10) (by decide), isK_ne hk (j := 11) (by decide), isK_ne hk (j := 12) (by decide), isK_ne hk (j := 13) (by decide), isK_ne hk (j := 14) (by decide), isK_ne hk (j := 15) (by decide), isK_ne hk (j := 16) (by decide), cond_false]
    exact h

/-! impl.IsFinite -/
noncomputable def c_impl_IsFinite : Ctx := mkC Try.prog tyT [] [] [] 7 (fun _ => none) 0
theorem w_impl_IsFinite (x : Nat) (K : V → Heap → Prop) : wpFn c_impl_IsFinite Try.f64 (encAs [.cell tF] (x, ())) [] K =
  K (.bool (feq FloatKind.f32 (fsub FloatKind.f32 x x) 0)) [] := by kernel_rfl
noncomputable def s_impl_IsFinite : Sm := semT [.cell tF] fun x => match x with | (x, _) => .bool (finN x)
theorem ok_impl_IsFinite : FnOk Try.prog 64 s_impl_IsFinite := fnOk_typed (fnOk_runC (C := c_impl_IsFinite) rfl mixed .nil .nil .nil Try.func64 (by kernel_rfl)) fun (x : ((Nat) × Unit)) wf K h => by
  obtain ⟨x, ⟨⟩⟩ := x
  replace h : K (.bool (finN x)) [] := h
  rw [w_impl_IsFinite x K]
  exact h

/-! impl.finite$1 -/
noncomputable def c_impl_finite_1 : Ctx := mkC Try.prog tyT [(64, s_impl_IsFinite)] [] [] 6 (fun _ => none) 0
theorem w_impl_finite_1 (x : Nat) (K : V → Heap → Prop) : wpFn c_impl_finite_1 Try.f63 (encAs [.cell tF] (x, ())) [] K =
  K (.bool (!finN x)) [] := by kernel_rfl
noncomputable def s_impl_finite_1 : Sm := semT [.cell tF] fun x => match x with | (x, _) => .bool (!finN x)
theorem ok_impl_finite_1 : FnOk Try.prog 63 s_impl_finite_1 := fnOk_typed (fnOk_runC (C := c_impl_finite_1) rfl mixed (.cons ok_impl_IsFinite .nil) .nil .nil Try.func63 (by kernel_rfl)) fun (x : ((Nat) × Unit)) wf K h => by
  obtain ⟨x, ⟨⟩⟩ := x
  replace h : K (.bool (!finN x)) [] := h
  rw [w_impl_finite_1 x K]
  exact h

/-! slices.IndexFunc[[]float32,float32] -/
noncomputable def a_slices_IndexFunc__float32_vfin : Nat → Option Ann := fun n => bif Nat.beq n 2 then some ⟨[0,1,7,8],0,false⟩ else none
noncomputable def c_slices_IndexFunc__float32_vfin : Ctx := mkC Try.prog tyT [(63, s_impl_finite_1)] [] [] 19 a_slices_IndexFunc__float32_vfin 0
noncomputable def fr_slices_IndexFunc__float32_vfin_2 (xs : List (Nat)) (n i : Int) : Fr := [(0, .vec (tF) xs), (1, .fn 63 []), (7, .int .i64 n), (8, .int .i64 i)]
theorem r_slices_IndexFunc__float32_vfin_2 (xs : List (Nat)) (n i : Int) (Kn : Fr → Heap → Prop) (K : V → Heap → Prop) : round c_slices_IndexFunc__float32_vfin ⟨[0,1,7,8],0,false⟩ (lb c_slices_IndexFunc__float32_vfin 2 Try.f77) (fr_slices_IndexFunc__float32_vfin_2 xs n i) [] Kn (lk c_slices_IndexFunc__float32_vfin 2 Try.f77 [] K) =
  cond (decide (i < n))
    (cond (decide (0 ≤ i))
      ((match xs[Int.toNat i]? with
        | some y0 => cond (!finN y0)
          (K (.int .i64 (i)) [])
          (Kn [(0, (.vec (.float .f32) (xs))), (1, (.fn 63 [])), (7, (.int .i64 (n))), (8, (.int .i64 (IntKind.wrap IntKind.i64 (i + 1))))] [])
        | none => False))
      (False))
    (K (.int .i64 (-1)) []) := by kernel_rfl
theorem w_slices_IndexFunc__float32_vfin (xs : List (Nat)) (K : V → Heap → Prop) : wpFn c_slices_IndexFunc__float32_vfin Try.f77 (encAs [.cell (.slice (tF)), .fn 63] (xs, (), ())) [] K =
  LoopE c_slices_IndexFunc__float32_vfin ⟨[0, 1, 7, 8], 0, false⟩ (lb c_slices_IndexFunc__float32_vfin 2 Try.f77) [(0, (.vec (.float .f32) (xs))), (1, (.fn 63 [])), (7, (.int .i64 ((↑(List.length xs) : Int)))), (8, (.int .i64 0))] [] (lk c_slices_IndexFunc__float32_vfin 2 Try.f77 [] K) := by kernel_rfl
noncomputable def s_slices_IndexFunc__float32_vfin : Sm := semT [.cell (.slice (tF)), .fn 63] fun x => match x with | (xs, _, _) => .int .i64 (idxF (fun x => !finN x) xs)
theorem ok_slices_IndexFunc__float32_vfin : FnOk Try.prog 77 s_slices_IndexFunc__float32_vfin := fnOk_typed (fnOk_runC (C := c_slices_IndexFunc__float32_vfin) rfl mixed (.cons ok_impl_finite_1 .nil) .nil .nil Try.func77 (by kernel_rfl)) fun (x : ((List (Nat)) × Unit × Unit)) wf K h => by
  obtain ⟨xs, ⟨⟩, ⟨⟩⟩ := x
  replace h : K (.int .i64 (idxF (fun x => !finN x) xs)) [] := h
  rw [w_slices_IndexFunc__float32_vfin xs K]
  obtain ⟨⟨wl, _⟩, _⟩ := wf
  have wl : xs.length ≤ 9223372036854775807 := wl
  refine loop_run (σ := Nat) (fun i => fr_slices_IndexFunc__float32_vfin_2 xs xs.length i) (fun _ => []) (fun i => i ≤ xs.length ∧ (xs.take i).any (fun x => !finN x) = false) (fun i => xs.length - i) ?_ 0 ⟨Nat.zero_le _, rfl⟩
  intro i hi Kn hk
  rw [r_slices_IndexFunc__float32_vfin_2 xs xs.length i Kn K]
  by_cases hlt : i < xs.length
  · simp only [d_lt hlt, d_0, cond_true, Int.toNat_natCast, get_lt hlt]
    cases hp : (fun x => !finN x) (xs[i]'hlt) with
    | true =>
      rw [idxF_hit hlt hi.2 hp] at h
      simp only at hp
      simp only [hp, cond_true]
      exact h
    | false =>
      have hn := any_snoc (f := (fun x => !finN x)) hlt hi.2 hp
      simp only at hp
      simp only [hp, cond_false]
      rw [i64_of (by omega) (by omega)]
      exact hk (i + 1) ⟨hlt, hn⟩ (by omega)
  · simp only [d_nlt hlt, cond_false]
    have : i = xs.length := by omega
    subst this
    have ha := hi.2
    rw [List.take_length] at ha
    rw [idxF_none ha] at h
    exact h

/-! slices.ContainsFunc[[]float32,float32] -/
noncomputable def c_slices_ContainsFunc__float32_vfin : Ctx := mkC Try.prog tyT [(77, s_slices_IndexFunc__float32_vfin)] [] [] 9 (fun _ => none) 0
theorem w_slices_ContainsFunc__float32_vfin (xs : List (Nat)) (K : V → Heap → Prop) : wpFn c_slices_ContainsFunc__float32_vfin Try.f62 (encAs [.cell (.slice (tF)), .fn 63] (xs, (), ())) [] K =
  K (.bool (decide (idxF (fun x => !finN x) xs ≥ 0))) [] := by kernel_rfl
noncomputable def s_slices_ContainsFunc__float32_vfin : Sm := semT [.cell (.slice (tF)), .fn 63] fun x => match x with | (xs, _, _) => .bool (xs.any (fun x => !finN x))
theorem ok_slices_ContainsFunc__float32_vfin : FnOk Try.prog 62 s_slices_ContainsFunc__float32_vfin := fnOk_typed (fnOk_runC (C := c_slices_ContainsFunc__float32_vfin) rfl mixed (.cons ok_slices_IndexFunc__float32_vfin .nil) .nil .nil Try.func62 (by kernel_rfl)) fun (x : ((List (Nat)) × Unit × Unit)) wf K h => by
  obtain ⟨xs, ⟨⟩, ⟨⟩⟩ := x
  replace h : K (.bool (xs.any (fun x => !finN x))) [] := h
  rw [w_slices_ContainsFunc__float32_vfin xs K]
  rw [idxF_ge]
  exact h


/-! impl.finite -/
noncomputable def c_impl_finite : Ctx := mkC Try.prog tyT [(62, s_slices_ContainsFunc__float32_vfin)] [] [] 6 (fun _ => none) 0
theorem w_impl_finite (xs : List Nat) (K : V → Heap → Prop) : wpFn c_impl_finite Try.f46 (encAs [.cell (.slice tF)] (xs, ())) [] K =
  K (.bool (!List.any xs fun x => !finN x)) [] := by kernel_rfl
noncomputable def s_impl_finite : Sm := semT [.cell (.slice tF)] fun x => match x with | (xs, _) => .bool (!xs.any (fun x => !finN x))
theorem ok_impl_finite : FnOk Try.prog 46 s_impl_finite := fnOk_typed (fnOk_runC (C := c_impl_finite) rfl mixed (.cons ok_slices_ContainsFunc__float32_vfin .nil) .nil .nil Try.func46 (by kernel_rfl)) fun (x : ((List Nat) × Unit)) wf K h => by
  obtain ⟨xs, ⟨⟩⟩ := x
  replace h : K (.bool (!xs.any (fun x => !finN x))) [] := h
  rw [w_impl_finite xs K]
  exact h

/-! impl.numbersOk$1 -/
noncomputable def c_impl_numbersOk_1 : Ctx := mkC Try.prog tyT [] [] [] 20 (fun _ => none) 0
theorem w_impl_numbersOk_1 (x : Nat) (a b : Int) (c : Bool) (d : Int) (K : V → Heap → Prop) : wpFn c_impl_numbersOk_1 Try.f66 (encAs [.cell tF, .ref tR] (x, (a, b, c, d), ())) [] K =
  cond (d == 1)
    (cond (flt FloatKind.f32 x 0)
      (K (.bool true) [])
      (cond (d == 2)
        (K (.bool (fle FloatKind.f32 x 0)) [])
        (K (.bool false) [])))
    (cond (d == 2)
      (K (.bool (fle FloatKind.f32 x 0)) [])
      (K (.bool false) [])) := by kernel_rfl
noncomputable def s_impl_numbersOk_1 : Sm := semT [.cell tF, .ref tR] fun x => match x with | (x, (a, b, c, d), _) => .bool (sgnB d x)
theorem ok_impl_numbersOk_1 : FnOk Try.prog 66 s_impl_numbersOk_1 := fnOk_typed (fnOk_runC (C := c_impl_numbersOk_1) rfl mixed .nil .nil .nil Try.func66 (by kernel_rfl)) fun (x : ((Nat) × ((Int) × (Int) × (Bool) × (Int)) × Unit)) wf K h => by
  obtain ⟨x, ⟨a, b, c, d⟩, ⟨⟩⟩ := x
  replace h : K (.bool (sgnB d x)) [] := h
  rw [w_impl_numbersOk_1 x a b c d K]
  revert h
  unfold sgnB
  cases d == 1 <;> cases d == 2 <;> cases flt FloatKind.f32 x 0 <;> exact id

/-! slices.IndexFunc[[]float32,float32] -/
noncomputable def a_slices_IndexFunc__float32_vsgn : Nat → Option Ann := fun n => bif Nat.beq n 2 then some ⟨[0,1,7,8],0,false⟩ else none
noncomputable def c_slices_IndexFunc__float32_vsgn : Ctx := mkC Try.prog tyT [(66, s_impl_numbersOk_1)] [] [] 19 a_slices_IndexFunc__float32_vsgn 0
noncomputable def fr_slices_IndexFunc__float32_vsgn_2 (xs : List (Nat)) (a b : Int) (c : Bool) (d : Int) (n i : Int) : Fr := [(0, .vec (tF) xs), (1, .fn 66 [.ref [.int .i64 a, .int .i64 b, .bool c, .int .i64 d] 0]), (7, .int .i64 n), (8, .int .i64 i)]
theorem r_slices_IndexFunc__float32_vsgn_2 (xs : List (Nat)) (a b : Int) (c : Bool) (d : Int) (n i : Int) (Kn : Fr → Heap → Prop) (K : V → Heap → Prop) : round c_slices_IndexFunc__float32_vsgn ⟨[0,1,7,8],0,false⟩ (lb c_slices_IndexFunc__float32_vsgn 2 Try.f77) (fr_slices_IndexFunc__float32_vsgn_2 xs a b c d n i) [] Kn (lk c_slices_IndexFunc__float32_vsgn 2 Try.f77 [] K) =
  cond (decide (i < n))
    (cond (decide (0 ≤ i))
      ((match xs[Int.toNat i]? with
        | some y0 => cond (sgnB d y0)
          (K (.int .i64 (i)) [])
          (Kn [(0, (.vec (.float .f32) (xs))), (1, (.fn 66 [(.ref [(.int .i64 (a)), (.int .i64 (b)), (.bool (c)), (.int .i64 (d))] 0)])), (7, (.int .i64 (n))), (8, (.int .i64 (IntKind.wrap IntKind.i64 (i + 1))))] [])
        | none => False))
      (False))
    (K (.int .i64 (-1)) []) := by kernel_rfl
theorem w_slices_IndexFunc__float32_vsgn (xs : List (Nat)) (a b : Int) (c : Bool) (d : Int) (K : V → Heap → Prop) : wpFn c_slices_IndexFunc__float32_vsgn Try.f77 (encAs [.cell (.slice (tF)), .clo 66 tR] (xs, (a, b, c, d), ())) [] K =
  LoopE c_slices_IndexFunc__float32_vsgn ⟨[0, 1, 7, 8], 0, false⟩ (lb c_slices_IndexFunc__float32_vsgn 2 Try.f77) [(0, (.vec (.float .f32) (xs))), (1, (.fn 66 [(.ref [(.int .i64 (a)), (.int .i64 (b)), (.bool (c)), (.int .i64 (d))] 0)])), (7, (.int .i64 ((↑(List.length xs) : Int)))), (8, (.int .i64 0))] [] (lk c_slices_IndexFunc__float32_vsgn 2 Try.f77 [] K) := by kernel_rfl
noncomputable def s_slices_IndexFunc__float32_vsgn : Sm := semT [.cell (.slice (tF)), .clo 66 tR] fun x => match x with | (xs, (a, b, c, d), _) => .int .i64 (idxF (fun x => sgnB d x) xs)
theorem ok_slices_IndexFunc__float32_vsgn : FnOk Try.prog 77 s_slices_IndexFunc__float32_vsgn := fnOk_typed (fnOk_runC (C := c_slices_IndexFunc__float32_vsgn) rfl mixed (.cons ok_impl_numbersOk_1 .nil) .nil .nil Try.func77 (by kernel_rfl)) fun (x : ((List (Nat)) × ((Int) × (Int) × (Bool) × (Int)) × Unit)) wf K h => by
  obtain ⟨xs, ⟨a, b, c, d⟩, ⟨⟩⟩ := x
  replace h : K (.int .i64 (idxF (fun x => sgnB d x) xs)) [] := h
  rw [w_slices_IndexFunc__float32_vsgn xs a b c d K]
  obtain ⟨⟨wl, _⟩, _⟩ := wf
  have wl : xs.length ≤ 9223372036854775807 := wl
  refine loop_run (σ := Nat) (fun i => fr_slices_IndexFunc__float32_vsgn_2 xs a b c d xs.length i) (fun _ => []) (fun i => i ≤ xs.length ∧ (xs.take i).any (fun x => sgnB d x) = false) (fun i => xs.length - i) ?_ 0 ⟨Nat.zero_le _, rfl⟩
  intro i hi Kn hk
  rw [r_slices_IndexFunc__float32_vsgn_2 xs a b c d xs.length i Kn K]
  by_cases hlt : i < xs.length
  · simp only [d_lt hlt, d_0, cond_true, Int.toNat_natCast, get_lt hlt]
    cases hp : (fun x => sgnB d x) (xs[i]'hlt) with
    | true =>
      rw [idxF_hit hlt hi.2 hp] at h
      simp only at hp
      simp only [hp, cond_true]
      exact h
    | false =>
      have hn := any_snoc (f := (fun x => sgnB d x)) hlt hi.2 hp
      simp only at hp
      simp only [hp, cond_false]
      rw [i64_of (by omega) (by omega)]
      exact hk (i + 1) ⟨hlt, hn⟩ (by omega)
  · simp only [d_nlt hlt, cond_false]
    have : i = xs.length := by omega
    subst this
    have ha := hi.2
    rw [List.take_length] at ha
    rw [idxF_none ha] at h
    exact h

/-! slices.ContainsFunc[[]float32,float32] -/
noncomputable def c_slices_ContainsFunc__float32_vsgn : Ctx := mkC Try.prog tyT [(77, s_slices_IndexFunc__float32_vsgn)] [] [] 9 (fun _ => none) 0
theorem w_slices_ContainsFunc__float32_vsgn (xs : List (Nat)) (a b : Int) (c : Bool) (d : Int) (K : V → Heap → Prop) : wpFn c_slices_ContainsFunc__float32_vsgn Try.f62 (encAs [.cell (.slice (tF)), .clo 66 tR] (xs, (a, b, c, d), ())) [] K =
  K (.bool (decide (idxF (fun x => sgnB d x) xs ≥ 0))) [] := by kernel_rfl
noncomputable def s_slices_ContainsFunc__float32_vsgn : Sm := semT [.cell (.slice (tF)), .clo 66 tR] fun x => match x with | (xs, (a, b, c, d), _) => .bool (xs.any (fun x => sgnB d x))
theorem ok_slices_ContainsFunc__float32_vsgn : FnOk Try.prog 62 s_slices_ContainsFunc__float32_vsgn := fnOk_typed (fnOk_runC (C := c_slices_ContainsFunc__float32_vsgn) rfl mixed (.cons ok_slices_IndexFunc__float32_vsgn .nil) .nil .nil Try.func62 (by kernel_rfl)) fun (x : ((List (Nat)) × ((Int) × (Int) × (Bool) × (Int)) × Unit)) wf K h => by
  obtain ⟨xs, ⟨a, b, c, d⟩, ⟨⟩⟩ := x
  replace h : K (.bool (xs.any (fun x => sgnB d x))) [] := h
  rw [w_slices_ContainsFunc__float32_vsgn xs a b c d K]
  rw [idxF_ge]
  exact h


/-! impl.numbersOk -/
noncomputable def c_impl_numbersOk : Ctx := mkC Try.prog tyT [(65, s_impl_ruleOf), (46, s_impl_finite), (62, s_slices_ContainsFunc__float32_vsgn)] [] [] 30 (fun _ => none) 0
theorem w_impl_numbersOk (k : Int) (xs : List Nat) (K : V → Heap → Prop) : wpFn c_impl_numbersOk Try.f47 (encAs [.cell tI, .cell (.slice tF)] (k, xs, ())) [] K =
  cond (!isK k)
    (K (.bool false) [])
    (cond ((↑(List.length xs) : Int) != kindN k)
      (K (.bool false) [])
      (cond (!!List.any xs fun x => !finN x)
        (K (.bool false) [])
        (K (.bool (!List.any xs fun x => sgnB (kindS k) x)) []))) := by kernel_rfl
noncomputable def s_impl_numbersOk : Sm := semT [.cell tI, .cell (.slice tF)] fun x => match x with | (k, xs, _) => .bool (numsB k xs)
theorem ok_impl_numbersOk : FnOk Try.prog 47 s_impl_numbersOk := fnOk_typed (fnOk_runC (C := c_impl_numbersOk) rfl mixed (.cons ok_impl_ruleOf (.cons ok_impl_finite (.cons ok_slices_ContainsFunc__float32_vsgn .nil))) .nil .nil Try.func47 (by kernel_rfl)) fun (x : ((Int) × (List Nat) × Unit)) wf K h => by
  obtain ⟨k, xs, ⟨⟩⟩ := x
  replace h : K (.bool (numsB k xs)) [] := h
  rw [w_impl_numbersOk k xs K]
  revert h
  unfold numsB
  simp only [bne]
  cases isK k <;> cases ((xs.length : Int) == kindN k) <;> cases (xs.any fun x => !finN x) <;> exact id

/-! impl.axisOk -/
noncomputable def c_impl_axisOk : Ctx := mkC Try.prog tyT [(65, s_impl_ruleOf), (29, s_impl_in)] [] [] 46 (fun _ => none) 0
theorem w_impl_axisOk (k a b : Int) (xs : List Nat) (K : V → Heap → Prop) : wpFn c_impl_axisOk Try.f48 (encAs [.ref tN] ((k, a, b, xs), ())) [] K =
  cond (decide (kindC k > 0))
    (cond (kindC k == 2)
      (K (.bool true) [])
      (cond (b == 0)
        (K (.bool true) [])
        (cond (kindA k)
          (K (.bool (inR b 0 2)) [])
          (K (.bool false) []))))
    (cond (a == 0)
      (cond (kindC k == 2)
        (K (.bool true) [])
        (cond (b == 0)
          (K (.bool true) [])
          (cond (kindA k)
            (K (.bool (inR b 0 2)) [])
            (K (.bool false) []))))
      (K (.bool false) [])) := by kernel_rfl
noncomputable def s_impl_axisOk : Sm := semT [.ref tN] fun x => match x with | ((k, a, b, xs), _) => .bool (axB k a b)
theorem ok_impl_axisOk : FnOk Try.prog 48 s_impl_axisOk := fnOk_typed (fnOk_runC (C := c_impl_axisOk) rfl mixed (.cons ok_impl_ruleOf (.cons ok_impl_in .nil)) .nil .nil Try.func48 (by kernel_rfl)) fun (x : (((Int) × (Int) × (Int) × (List Nat)) × Unit)) wf K h => by
  obtain ⟨⟨k, a, b, xs⟩, ⟨⟩⟩ := x
  replace h : K (.bool (axB k a b)) [] := h
  rw [w_impl_axisOk k a b xs K]
  revert h
  unfold axB
  cases decide (kindC k > 0) <;> cases a == 0 <;> cases kindC k == 2 <;> cases b == 0 <;> cases kindA k <;> exact id

/-! impl.childrenOf -/
noncomputable def c_impl_childrenOf : Ctx := mkC Try.prog tyT [(65, s_impl_ruleOf)] [] [] 25 (fun _ => none) 0 true
theorem w_impl_childrenOf (k a b : Int) (xs : List Nat) (K : V → Heap → Prop) : wpFn c_impl_childrenOf Try.f49 (encAs [.ref tN] ((k, a, b, xs), ())) [] K =
  cond (decide (0 ≤ 0) && (decide (0 ≤ kindC k) && decide (kindC k ≤ (↑2 : Int))))
    (K (.vec (.int .i64) (List.drop 0 (List.take (Int.toNat (kindC k)) [a, b]))) [])
    (False) := by kernel_rfl
noncomputable def s_impl_childrenOf : Sm := semT [.ref tN] fun x => match x with | ((k, a, b, xs), _) => .vec tI (kids k a b)
theorem ok_impl_childrenOf : FnOk Try.prog 49 s_impl_childrenOf := fnOk_typed (fnOk_runC (C := c_impl_childrenOf) rfl mixed (.cons ok_impl_ruleOf .nil) .nil .nil Try.func49 (by kernel_rfl)) fun (x : (((Int) × (Int) × (Int) × (List Nat)) × Unit)) wf K h => by
  obtain ⟨⟨k, a, b, xs⟩, ⟨⟩⟩ := x
  replace h : K (.vec tI (kids k a b)) [] := h
  rw [w_impl_childrenOf k a b xs K]
  have hc := kindC_range k
  have h3 : kindC k ≤ 2 := hc.2
  simp only [hc.1, h3, Int.le_refl, decide_true, Bool.and_self, cond_true]
  exact h

/-! impl.ValidShape$1 -/
noncomputable def c_impl_ValidShape_1 : Ctx := mkC Try.prog tyT [] [] [] 5 (fun _ => none) 0
theorem w_impl_ValidShape_1 (n : Int) (K : V → Heap → Prop) : wpFn c_impl_ValidShape_1 Try.f51 (encAs [.cell tI] (n, ())) [] K =
  K (.bool (n != 1)) [] := by kernel_rfl
noncomputable def s_impl_ValidShape_1 : Sm := semT [.cell tI] fun x => match x with | (n, _) => .bool (n != 1)
theorem ok_impl_ValidShape_1 : FnOk Try.prog 51 s_impl_ValidShape_1 := fnOk_typed (fnOk_runC (C := c_impl_ValidShape_1) rfl mixed .nil .nil .nil Try.func51 (by kernel_rfl)) fun (x : ((Int) × Unit)) wf K h => by
  obtain ⟨n, ⟨⟩⟩ := x
  replace h : K (.bool (n != 1)) [] := h
  rw [w_impl_ValidShape_1 n K]
  exact h

/-! slices.IndexFunc[[]int,int] -/
noncomputable def a_slices_IndexFunc__int_vone : Nat → Option Ann := fun n => bif Nat.beq n 2 then some ⟨[0,1,7,8],0,false⟩ else none
noncomputable def c_slices_IndexFunc__int_vone : Ctx := mkC Try.prog tyT [(51, s_impl_ValidShape_1)] [] [] 19 a_slices_IndexFunc__int_vone 0
noncomputable def fr_slices_IndexFunc__int_vone_2 (xs : List (Int)) (n i : Int) : Fr := [(0, .vec (tI) xs), (1, .fn 51 []), (7, .int .i64 n), (8, .int .i64 i)]
theorem r_slices_IndexFunc__int_vone_2 (xs : List (Int)) (n i : Int) (Kn : Fr → Heap → Prop) (K : V → Heap → Prop) : round c_slices_IndexFunc__int_vone ⟨[0,1,7,8],0,false⟩ (lb c_slices_IndexFunc__int_vone 2 Try.f67) (fr_slices_IndexFunc__int_vone_2 xs n i) [] Kn (lk c_slices_IndexFunc__int_vone 2 Try.f67 [] K) =
  cond (decide (i < n))
    (cond (decide (0 ≤ i))
      ((match xs[Int.toNat i]? with
        | some y0 => cond (y0 != 1)
          (K (.int .i64 (i)) [])
          (Kn [(0, (.vec (.int .i64) (xs))), (1, (.fn 51 [])), (7, (.int .i64 (n))), (8, (.int .i64 (IntKind.wrap IntKind.i64 (i + 1))))] [])
        | none => False))
      (False))
    (K (.int .i64 (-1)) []) := by kernel_rfl
theorem w_slices_IndexFunc__int_vone (xs : List (Int)) (K : V → Heap → Prop) : wpFn c_slices_IndexFunc__int_vone Try.f67 (encAs [.cell (.slice (tI)), .fn 51] (xs, (), ())) [] K =
  LoopE c_slices_IndexFunc__int_vone ⟨[0, 1, 7, 8], 0, false⟩ (lb c_slices_IndexFunc__int_vone 2 Try.f67) [(0, (.vec (.int .i64) (xs))), (1, (.fn 51 [])), (7, (.int .i64 ((↑(List.length xs) : Int)))), (8, (.int .i64 0))] [] (lk c_slices_IndexFunc__int_vone 2 Try.f67 [] K) := by kernel_rfl
noncomputable def s_slices_IndexFunc__int_vone : Sm := semT [.cell (.slice (tI)), .fn 51] fun x => match x with | (xs, _, _) => .int .i64 (idxF (fun x => x != 1) xs)
theorem ok_slices_IndexFunc__int_vone : FnOk Try.prog 67 s_slices_IndexFunc__int_vone := fnOk_typed (fnOk_runC (C := c_slices_IndexFunc__int_vone) rfl mixed (.cons ok_impl_ValidShape_1 .nil) .nil .nil Try.func67 (by kernel_rfl)) fun (x : ((List (Int)) × Unit × Unit)) wf K h => by
  obtain ⟨xs, ⟨⟩, ⟨⟩⟩ := x
  replace h : K (.int .i64 (idxF (fun x => x != 1) xs)) [] := h
  rw [w_slices_IndexFunc__int_vone xs K]
  obtain ⟨⟨wl, _⟩, _⟩ := wf
  have wl : xs.length ≤ 9223372036854775807 := wl
  refine loop_run (σ := Nat) (fun i => fr_slices_IndexFunc__int_vone_2 xs xs.length i) (fun _ => []) (fun i => i ≤ xs.length ∧ (xs.take i).any (fun x => x != 1) = false) (fun i => xs.length - i) ?_ 0 ⟨Nat.zero_le _, rfl⟩
  intro i hi Kn hk
  rw [r_slices_IndexFunc__int_vone_2 xs xs.length i Kn K]
  by_cases hlt : i < xs.length
  · simp only [d_lt hlt, d_0, cond_true, Int.toNat_natCast, get_lt hlt]
    cases hp : (fun x => x != 1) (xs[i]'hlt) with
    | true =>
      rw [idxF_hit hlt hi.2 hp] at h
      simp only at hp
      simp only [hp, cond_true]
      exact h
    | false =>
      have hn := any_snoc (f := (fun x => x != 1)) hlt hi.2 hp
      simp only at hp
      simp only [hp, cond_false]
      rw [i64_of (by omega) (by omega)]
      exact hk (i + 1) ⟨hlt, hn⟩ (by omega)
  · simp only [d_nlt hlt, cond_false]
    have : i = xs.length := by omega
    subst this
    have ha := hi.2
    rw [List.take_length] at ha
    rw [idxF_none ha] at h
    exact h

/-! slices.ContainsFunc[[]int,int] -/
noncomputable def c_slices_ContainsFunc__int_vone : Ctx := mkC Try.prog tyT [(67, s_slices_IndexFunc__int_vone)] [] [] 9 (fun _ => none) 0
theorem w_slices_ContainsFunc__int_vone (xs : List (Int)) (K : V → Heap → Prop) : wpFn c_slices_ContainsFunc__int_vone Try.f50 (encAs [.cell (.slice (tI)), .fn 51] (xs, (), ())) [] K =
  K (.bool (decide (idxF (fun x => x != 1) xs ≥ 0))) [] := by kernel_rfl
noncomputable def s_slices_ContainsFunc__int_vone : Sm := semT [.cell (.slice (tI)), .fn 51] fun x => match x with | (xs, _, _) => .bool (xs.any (fun x => x != 1))
theorem ok_slices_ContainsFunc__int_vone : FnOk Try.prog 50 s_slices_ContainsFunc__int_vone := fnOk_typed (fnOk_runC (C := c_slices_ContainsFunc__int_vone) rfl mixed (.cons ok_slices_IndexFunc__int_vone .nil) .nil .nil Try.func50 (by kernel_rfl)) fun (x : ((List (Int)) × Unit × Unit)) wf K h => by
  obtain ⟨xs, ⟨⟩, ⟨⟩⟩ := x
  replace h : K (.bool (xs.any (fun x => x != 1))) [] := h
  rw [w_slices_ContainsFunc__int_vone xs K]
  rw [idxF_ge]
  exact h


/-! impl.ValidShape -/
noncomputable def a_impl_ValidShape : Nat → Option Ann := fun n => bif Nat.beq n 5 then some ⟨[1,3,20,21],2,false⟩ else bif Nat.beq n 11 then some ⟨[1,3,4,20,21,44,45,46],2,false⟩ else none
noncomputable def c_impl_ValidShape : Ctx := mkC Try.prog tyT [(29, s_impl_in), (47, s_impl_numbersOk), (48, s_impl_axisOk), (49, s_impl_childrenOf), (50, s_slices_ContainsFunc__int_vone)] [] [] 78 a_impl_ValidShape 0
noncomputable def fr_impl_ValidShape_5 (ns : List NodeD) (us : List Int) (n i : Int) : Fr := [(1, .ptr 0 0), (3, .obj 1 0), (20, .int .i64 n), (21, .int .i64 i)]
noncomputable def hp_impl_ValidShape_5 (ns : List NodeD) (us : List Int) (n i : Int) : Heap := [.box [.vec tN ns], .sl 0 tI us]
theorem r_impl_ValidShape_5 (ns : List NodeD) (us : List Int) (n i : Int) (Kn : Fr → Heap → Prop) (K : V → Heap → Prop) : round c_impl_ValidShape ⟨[1,3,20,21],2,false⟩ (lb c_impl_ValidShape 5 Try.f32) (fr_impl_ValidShape_5 ns us n i) (hp_impl_ValidShape_5 ns us n i) Kn (lk c_impl_ValidShape 5 Try.f32 [] K) =
  cond (decide (i < n))
    (cond (decide (0 ≤ i))
      ((match ns[Int.toNat i]? with
        | some y0 => cond (!numsB (Prod.fst y0) (Prod.snd (Prod.snd (Prod.snd y0))))
          (K (.bool false) [])
          (cond (!axB (Prod.fst y0) (Prod.fst (Prod.snd y0)) (Prod.fst (Prod.snd (Prod.snd y0))))
            (K (.bool false) [])
            (LoopE c_impl_ValidShape ⟨[1, 3, 4, 20, 21, 44, 45, 46], 2, false⟩ (pathB c_impl_ValidShape [5, 11] (bodyOf Try.f32)) [(1, (.ptr 0 0)), (3, (.obj 1 0)), (4, (.int .i64 (i))), (20, (.int .i64 (n))), (21, (.int .i64 (i))), (44, (.vec (.int .i64) (kids (Prod.fst y0) (Prod.fst (Prod.snd y0)) (Prod.fst (Prod.snd (Prod.snd y0)))))), (45, (.int .i64 ((↑(List.length (kids (Prod.fst y0) (Prod.fst (Prod.snd y0)) (Prod.fst (Prod.snd (Prod.snd y0))))) : Int)))), (46, (.int .i64 0))] [(.box [(.vec (.pair (.int .i64) (.pair (.int .i64) (.pair (.int .i64) (.slice (.float .f32))))) (ns))]), (.sl 0 (.int .i64) (us))] (pathK c_impl_ValidShape [(5, ⟨[1,3,20,21],2,false⟩, Kn)] 11 (bodyOf Try.f32) (kFn c_impl_ValidShape Try.f32 [] K))))
        | none => False))
      (False))
    (cond (decide (0 ≤ IntKind.wrap IntKind.i64 ((↑(List.length us) : Int) - 1)) && Nat.blt (Int.toNat (IntKind.wrap IntKind.i64 ((↑(List.length us) : Int) - 1))) (List.length us))
      ((match us[Int.toNat (IntKind.wrap IntKind.i64 ((↑(List.length us) : Int) - 1))]? with
        | some x1 => cond (x1 == 0)
          (cond (decide (0 ≤ 0) && (decide (0 ≤ IntKind.wrap IntKind.i64 ((↑(List.length us) : Int) - 1)) && decide (IntKind.wrap IntKind.i64 ((↑(List.length us) : Int) - 1) ≤ (↑(List.length us) : Int))))
            (K (.bool (!List.any (List.drop 0 (List.take (Int.toNat (IntKind.wrap IntKind.i64 ((↑(List.length us) : Int) - 1))) us)) fun x => x != 1)) [])
            (False))
          (K (.bool false) [])
        | none => False))
      (False)) := by kernel_rfl
noncomputable def fr_impl_ValidShape_11 (ns : List NodeD) (us : List Int) (n i p : Int) (cs : List Int) (m j : Int) : Fr := [(1, .ptr 0 0), (3, .obj 1 0), (4, .int .i64 p), (20, .int .i64 n), (21, .int .i64 i), (44, .vec tI cs), (45, .int .i64 m), (46, .int .i64 j)]
noncomputable def hp_impl_ValidShape_11 (ns : List NodeD) (us : List Int) (n i p : Int) (cs : List Int) (m j : Int) : Heap := [.box [.vec tN ns], .sl 0 tI us]
theorem r_impl_ValidShape_11 (ns : List NodeD) (us : List Int) (n i p : Int) (cs : List Int) (m j : Int) (Kn5 : Fr → Heap → Prop) (Kn : Fr → Heap → Prop) (K : V → Heap → Prop) : round c_impl_ValidShape ⟨[1,3,4,20,21,44,45,46],2,false⟩ (pathB c_impl_ValidShape [5, 11] (bodyOf Try.f32)) (fr_impl_ValidShape_11 ns us n i p cs m j) (hp_impl_ValidShape_11 ns us n i p cs m j) Kn (pathK c_impl_ValidShape [(5, ⟨[1,3,20,21],2,false⟩, Kn5)] 11 (bodyOf Try.f32) (kFn c_impl_ValidShape Try.f32 [] K)) =
  cond (decide (j < m))
    (cond (decide (0 ≤ j))
      ((match cs[Int.toNat j]? with
        | some y0 => cond (!inR y0 0 (IntKind.wrap IntKind.i64 (p - 1)))
          (K (.bool false) [])
          (cond (decide (0 ≤ y0) && Nat.blt (Int.toNat y0) (List.length us))
            ((match us[Int.toNat y0]? with
              | some x1 => cond (decide (0 ≤ y0) && Nat.blt (Int.toNat y0) (List.length us))
                ((match us[Int.toNat y0]? with
                  | some x2 => Kn [(1, (.ptr 0 0)), (3, (.obj 1 0)), (4, (.int .i64 (p))), (20, (.int .i64 (n))), (21, (.int .i64 (i))), (44, (.vec (.int .i64) (cs))), (45, (.int .i64 (m))), (46, (.int .i64 (IntKind.wrap IntKind.i64 (j + 1))))] [(.box [(.vec (.pair (.int .i64) (.pair (.int .i64) (.pair (.int .i64) (.slice (.float .f32))))) (ns))]), (.sl 0 (.int .i64) (List.set us (Int.toNat y0) (IntKind.wrap IntKind.i64 (x1 + 1))))]
                  | none => False))
                (False)
              | none => False))
            (False))
        | none => False))
      (False))
    (Kn5 [(1, (.ptr 0 0)), (3, (.obj 1 0)), (20, (.int .i64 (n))), (21, (.int .i64 (IntKind.wrap IntKind.i64 (i + 1))))] [(.box [(.vec (.pair (.int .i64) (.pair (.int .i64) (.pair (.int .i64) (.slice (.float .f32))))) (ns))]), (.sl 0 (.int .i64) (us))]) := by kernel_rfl
theorem w_impl_ValidShape (ns : List NodeD) (K : V → Heap → Prop) : wpFn c_impl_ValidShape Try.f32 (encAs [.agg (.slice tN)] (ns, ())) [] K =
  cond (!inR (↑(List.length ns) : Int) 1 16)
    (K (.bool false) [])
    (cond (decide (0 ≤ (↑(List.length ns) : Int)) && (decide ((↑(List.length ns) : Int) ≤ (↑(List.length ns) : Int)) && decide ((↑8 : Int) * (↑(List.length ns) : Int) ≤ 281474976710656)))
      (LoopE c_impl_ValidShape ⟨[1, 3, 20, 21], 2, false⟩ (lb c_impl_ValidShape 5 Try.f32) [(1, (.ptr 0 0)), (3, (.obj 1 0)), (20, (.int .i64 ((↑(List.length ns) : Int)))), (21, (.int .i64 0))] [(.box [(.vec (.pair (.int .i64) (.pair (.int .i64) (.pair (.int .i64) (.slice (.float .f32))))) (ns))]), (.sl 0 (.int .i64) (List.replicate (Int.toNat (↑(List.length ns) : Int)) 0))] (lk c_impl_ValidShape 5 Try.f32 [] K))
      (False)) := by kernel_rfl
noncomputable def s_impl_ValidShape : Sm := semT [.agg (.slice tN)] fun x => match x with | (ns, _) => .bool (validS ns)
theorem ok_impl_ValidShape : FnOk Try.prog 32 s_impl_ValidShape := fnOk_typed (fnOk_runC (C := c_impl_ValidShape) rfl mixed (.cons ok_impl_in (.cons ok_impl_numbersOk (.cons ok_impl_axisOk (.cons ok_impl_childrenOf (.cons ok_slices_ContainsFunc__int_vone .nil))))) .nil .nil Try.func32 (by kernel_rfl)) fun (x : ((List NodeD) × Unit)) wf K h => by
  obtain ⟨ns, ⟨⟩⟩ := x
  replace h : K (.bool (validS ns)) [] := h
  rw [w_impl_ValidShape ns K]
  cases hin : inR (ns.length : Int) 1 16 with
  | false =>
    have : validS ns = false := by unfold validS; rw [hin]; rfl
    rw [this] at h
    exact h
  | true =>
    have hr := inR_iff.1 hin
    simp only [Bool.not_true, cond_false, Int.toNat_natCast]
    have e8 : 8 * (ns.length : Int) ≤ 281474976710656 := by omega
    simp only [d_0, Int.le_refl, decide_true, e8, Bool.and_self, cond_true]
    refine loop_run (σ := Nat) (fun i => fr_impl_ValidShape_5 ns [] ns.length i) (fun i => hp_impl_ValidShape_5 ns (usesAt ns i) ns.length i) (fun i => i ≤ ns.length ∧ OkUp ns i) (fun i => ns.length - i) ?_ 0 ⟨Nat.zero_le _, fun j n hj => by omega⟩
    intro i hi Kn5 hk5
    obtain ⟨u1, u2, u3⟩ := uses_facts i hi.1 hi.2
    rw [show fr_impl_ValidShape_5 ns [] ns.length i = fr_impl_ValidShape_5 ns (usesAt ns i) ns.length i from rfl, r_impl_ValidShape_5 ns (usesAt ns i) ns.length i Kn5 K]
    by_cases hlt : i < ns.length
    · simp only [d_lt hlt, d_0, cond_true, Int.toNat_natCast, get_lt hlt]
      generalize hy : ns[i]'hlt = y
      obtain ⟨k, a, b, xs⟩ := y
      have no : nodeB i (k, a, b, xs) = false → K (.bool false) [] := fun e => by
        rw [valid_no hlt (by rw [hy]; exact e)] at h
        exact h
      cases e1 : numsB k xs with
      | false => exact no (by unfold nodeB; simp only [e1, Bool.false_and])
      | true =>
        simp only [Bool.not_true, cond_false]
        cases e2 : axB k a b with
        | false => exact no (by unfold nodeB; simp only [e1, e2, Bool.false_and, Bool.and_false])
        | true =>
          simp only [Bool.not_true, cond_false]
          refine loop_run (σ := Nat) (fun j => fr_impl_ValidShape_11 ns [] ns.length i i (kids k a b) (kids k a b).length j) (fun j => hp_impl_ValidShape_11 ns (incs (usesAt ns i) ((kids k a b).take j)) 0 0 0 [] 0 0) (fun j => j ≤ (kids k a b).length ∧ ∀ c ∈ (kids k a b).take j, 0 ≤ c ∧ c < (i : Int)) (fun j => (kids k a b).length - j) ?_ 0 ⟨Nat.zero_le _, by simp⟩
          intro j hj Kn hk
          have hk2 : (kids k a b).length ≤ 2 := kids_len (k, a, b, xs)
          obtain ⟨v1, v2, v3⟩ := incs_facts (i := i) ((kids k a b).take j) (u := usesAt ns i) (B := 2 * (i : Int)) (fun c hc => hj.2 c hc) u2 (by omega)
          rw [show fr_impl_ValidShape_11 ns [] ns.length i i (kids k a b) (kids k a b).length j = fr_impl_ValidShape_11 ns (incs (usesAt ns i) ((kids k a b).take j)) ns.length i i (kids k a b) (kids k a b).length j from rfl,
            show hp_impl_ValidShape_11 ns (incs (usesAt ns i) ((kids k a b).take j)) 0 0 0 [] 0 0 = hp_impl_ValidShape_11 ns (incs (usesAt ns i) ((kids k a b).take j)) ns.length i i (kids k a b) (kids k a b).length j from rfl,
            r_impl_ValidShape_11 ns (incs (usesAt ns i) ((kids k a b).take j)) ns.length i i (kids k a b) (kids k a b).length j Kn5 Kn K]
          by_cases hjl : j < (kids k a b).length
          · simp only [d_lt hjl, d_0, cond_true, Int.toNat_natCast, get_lt hjl]
            rw [i64_of (n := (i : Int) - 1) (by omega) (by omega)]
            generalize hc : (kids k a b)[j]'hjl = c
            cases e3 : inR c 0 ((i : Int) - 1) with
            | false =>
              refine no ?_
              have : (kidsN (k, a, b, xs)).all (fun c => inR c 0 ((i : Int) - 1)) = false := List.all_eq_false.2 ⟨c, by rw [← hc]; exact List.getElem_mem hjl, by rw [e3]; simp⟩
              unfold nodeB
              rw [this, Bool.and_false, Bool.and_false]
            | true =>
              have hcr := inR_iff.1 e3
              have hcl : c.toNat < (incs (usesAt ns i) ((kids k a b).take j)).length := by rw [v1, u1]; omega
              simp only [Bool.not_true, cond_false, d_t hcr.1, blt_t hcl, Bool.and_self, cond_true, get_lt hcl]
              have hx := v2 _ (List.getElem_mem hcl)
              have hjt : ((kids k a b).take j).length ≤ 2 := by rw [List.length_take]; omega
              rw [i64_of (n := (incs (usesAt ns i) ((kids k a b).take j))[c.toNat]'hcl + 1) (by omega) (by omega), i64_of (by omega) (by omega)]
              have := hk (j + 1) ⟨hjl, fun c' hc' => by
                rw [take_one hjl, List.mem_append] at hc'
                rcases hc' with hc' | hc'
                · exact hj.2 c' hc'
                · rw [List.mem_singleton, hc] at hc'; omega⟩ (by omega)
              rw [show hp_impl_ValidShape_11 ns (incs (usesAt ns i) ((kids k a b).take (j + 1))) 0 0 0 [] 0 0 = [.box [.vec tN ns], .sl 0 tI ((incs (usesAt ns i) ((kids k a b).take j)).set c.toNat ((incs (usesAt ns i) ((kids k a b).take j))[c.toNat]'hcl + 1))] by
                rw [incs_take _ hjl, hc]
                unfold inc1
                rw [get_lt hcl]
                rfl] at this
              exact this
          · simp only [d_nlt hjl, cond_false]
            rw [i64_of (by omega) (by omega)]
            have hall : (kids k a b).take j = kids k a b := List.take_of_length_le (by omega)
            have hn : nodeB i (k, a, b, xs) = true := by
              unfold nodeB
              rw [e1, e2, Bool.true_and, Bool.true_and]
              refine List.all_eq_true.2 fun c hc => inR_iff.2 ?_
              have := hj.2 c (by rw [hall]; exact hc)
              omega
            have := hk5 (i + 1) ⟨hlt, okUp_succ hlt hi.2 (by rw [hy]; exact hn)⟩ (by omega)
            rw [show hp_impl_ValidShape_5 ns (usesAt ns (i + 1)) ns.length ((i + 1 : Nat) : Int) = [.box [.vec tN ns], .sl 0 tI (incs (usesAt ns i) ((kids k a b).take j))] by
              rw [usesAt_succ hlt, hy, hall]; rfl] at this
            exact this
    · have : i = ns.length := by omega
      subst this
      simp only [d_nlt hlt, cond_false]
      rw [u1, i64_of (n := (ns.length : Int) - 1) (by omega) (by omega), show ((ns.length : Int) - 1).toNat = ns.length - 1 by omega]
      have hl : ns.length - 1 < (usesAt ns ns.length).length := by rw [u1]; omega
      have h0 := u3 (ns.length - 1) _ (by omega) (get_lt hl)
      rw [u1] at hl
      simp only [d_t (show (0 : Int) ≤ (ns.length : Int) - 1 by omega), blt_t hl, Bool.and_self, cond_true]
      rw [get_lt (by rw [u1]; exact hl), h0]
      simp only [beq_self_eq_true, cond_true, d_t (show (0 : Int) ≤ 0 by decide), d_t (show (ns.length : Int) - 1 ≤ (ns.length : Int) by omega), Bool.and_self, List.drop_zero]
      rw [all_one, ← valid_last hin hi.2]
      exact h

/-! spec.l02Count -/
noncomputable def c_spec_l02Count : Ctx := mkC Try.prog tyT [] [] [] 21 (fun _ => none) 0
theorem w_spec_l02Count (k : Int) (K : V → Heap → Prop) : wpFn c_spec_l02Count Try.f75 (encAs [.cell tI] (k, ())) [] K =
  cond (k == 0)
    (cond (k == 0)
      (K (.int .i64 1) [])
      (cond (k == 2)
        (cond (k == 2)
          (K (.int .i64 2) [])
          (cond (k == 1)
            (cond (k == 1)
              (K (.int .i64 3) [])
              (cond (k == 4)
                (K (.int .i64 4) [])
                (K (.int .i64 0) [])))
            (cond (k == 9)
              (cond (k == 9)
                (K (.int .i64 3) [])
                (cond (k == 4)
                  (K (.int .i64 4) [])
                  (K (.int .i64 0) [])))
              (cond (k == 11)
                (K (.int .i64 3) [])
                (cond (k == 4)
                  (K (.int .i64 4) [])
                  (K (.int .i64 0) []))))))
        (cond (k == 3)
          (K (.int .i64 2) [])
          (cond (k == 1)
            (cond (k == 1)
              (K (.int .i64 3) [])
              (cond (k == 4)
                (K (.int .i64 4) [])
                (K (.int .i64 0) [])))
            (cond (k == 9)
              (cond (k == 9)
                (K (.int .i64 3) [])
                (cond (k == 4)
                  (K (.int .i64 4) [])
                  (K (.int .i64 0) [])))
              (cond (k == 11)
                (K (.int .i64 3) [])
                (cond (k == 4)
                  (K (.int .i64 4) [])
                  (K (.int .i64 0) []))))))))
    (cond (k == 8)
      (cond (k == 8)
        (K (.int .i64 1) [])
        (cond (k == 2)
          (cond (k == 2)
            (K (.int .i64 2) [])
            (cond (k == 1)
              (cond (k == 1)
                (K (.int .i64 3) [])
                (cond (k == 4)
                  (K (.int .i64 4) [])
                  (K (.int .i64 0) [])))
              (cond (k == 9)
                (cond (k == 9)
                  (K (.int .i64 3) [])
                  (cond (k == 4)
                    (K (.int .i64 4) [])
                    (K (.int .i64 0) [])))
                (cond (k == 11)
                  (K (.int .i64 3) [])
                  (cond (k == 4)
                    (K (.int .i64 4) [])
                    (K (.int .i64 0) []))))))
          (cond (k == 3)
            (K (.int .i64 2) [])
            (cond (k == 1)
              (cond (k == 1)
                (K (.int .i64 3) [])
                (cond (k == 4)
                  (K (.int .i64 4) [])
                  (K (.int .i64 0) [])))
              (cond (k == 9)
                (cond (k == 9)
                  (K (.int .i64 3) [])
                  (cond (k == 4)
                    (K (.int .i64 4) [])
                    (K (.int .i64 0) [])))
                (cond (k == 11)
                  (K (.int .i64 3) [])
                  (cond (k == 4)
                    (K (.int .i64 4) [])
                    (K (.int .i64 0) []))))))))
      (cond (k == 10)
        (cond (k == 10)
          (K (.int .i64 1) [])
          (cond (k == 2)
            (cond (k == 2)
              (K (.int .i64 2) [])
              (cond (k == 1)
                (cond (k == 1)
                  (K (.int .i64 3) [])
                  (cond (k == 4)
                    (K (.int .i64 4) [])
                    (K (.int .i64 0) [])))
                (cond (k == 9)
                  (cond (k == 9)
                    (K (.int .i64 3) [])
                    (cond (k == 4)
                      (K (.int .i64 4) [])
                      (K (.int .i64 0) [])))
                  (cond (k == 11)
                    (K (.int .i64 3) [])
                    (cond (k == 4)
                      (K (.int .i64 4) [])
                      (K (.int .i64 0) []))))))
            (cond (k == 3)
              (K (.int .i64 2) [])
              (cond (k == 1)
                (cond (k == 1)
                  (K (.int .i64 3) [])
                  (cond (k == 4)
                    (K (.int .i64 4) [])
                    (K (.int .i64 0) [])))
                (cond (k == 9)
                  (cond (k == 9)
                    (K (.int .i64 3) [])
                    (cond (k == 4)
                      (K (.int .i64 4) [])
                      (K (.int .i64 0) [])))
                  (cond (k == 11)
                    (K (.int .i64 3) [])
                    (cond (k == 4)
                      (K (.int .i64 4) [])
                      (K (.int .i64 0) []))))))))
        (cond (k == 12)
          (cond (k == 12)
            (K (.int .i64 1) [])
            (cond (k == 2)
              (cond (k == 2)
                (K (.int .i64 2) [])
                (cond (k == 1)
                  (cond (k == 1)
                    (K (.int .i64 3) [])
                    (cond (k == 4)
                      (K (.int .i64 4) [])
                      (K (.int .i64 0) [])))
                  (cond (k == 9)
                    (cond (k == 9)
                      (K (.int .i64 3) [])
                      (cond (k == 4)
                        (K (.int .i64 4) [])
                        (K (.int .i64 0) [])))
                    (cond (k == 11)
                      (K (.int .i64 3) [])
                      (cond (k == 4)
                        (K (.int .i64 4) [])
                        (K (.int .i64 0) []))))))
              (cond (k == 3)
                (K (.int .i64 2) [])
                (cond (k == 1)
                  (cond (k == 1)
                    (K (.int .i64 3) [])
                    (cond (k == 4)
                      (K (.int .i64 4) [])
                      (K (.int .i64 0) [])))
                  (cond (k == 9)
                    (cond (k == 9)
                      (K (.int .i64 3) [])
                      (cond (k == 4)
                        (K (.int .i64 4) [])
                        (K (.int .i64 0) [])))
                    (cond (k == 11)
                      (K (.int .i64 3) [])
                      (cond (k == 4)
                        (K (.int .i64 4) [])
                        (K (.int .i64 0) []))))))))
          (cond (k == 14)
            (cond (k == 14)
              (K (.int .i64 1) [])
              (cond (k == 2)
                (cond (k == 2)
                  (K (.int .i64 2) [])
                  (cond (k == 1)
                    (cond (k == 1)
                      (K (.int .i64 3) [])
                      (cond (k == 4)
                        (K (.int .i64 4) [])
                        (K (.int .i64 0) [])))
                    (cond (k == 9)
                      (cond (k == 9)
                        (K (.int .i64 3) [])
                        (cond (k == 4)
                          (K (.int .i64 4) [])
                          (K (.int .i64 0) [])))
                      (cond (k == 11)
                        (K (.int .i64 3) [])
                        (cond (k == 4)
                          (K (.int .i64 4) [])
                          (K (.int .i64 0) []))))))
                (cond (k == 3)
                  (K (.int .i64 2) [])
                  (cond (k == 1)
                    (cond (k == 1)
                      (K (.int .i64 3) [])
                      (cond (k == 4)
                        (K (.int .i64 4) [])
                        (K (.int .i64 0) [])))
                    (cond (k == 9)
                      (cond (k == 9)
                        (K (.int .i64 3) [])
                        (cond (k == 4)
                          (K (.int .i64 4) [])
                          (K (.int .i64 0) [])))
                      (cond (k == 11)
                        (K (.int .i64 3) [])
                        (cond (k == 4)
                          (K (.int .i64 4) [])
                          (K (.int .i64 0) []))))))))
            (cond (k == 15)
              (cond (k == 15)
                (K (.int .i64 1) [])
                (cond (k == 2)
                  (cond (k == 2)
                    (K (.int .i64 2) [])
                    (cond (k == 1)
                      (cond (k == 1)
                        (K (.int .i64 3) [])
                        (cond (k == 4)
                          (K (.int .i64 4) [])
                          (K (.int .i64 0) [])))
                      (cond (k == 9)
                        (cond (k == 9)
                          (K (.int .i64 3) [])
                          (cond (k == 4)
                            (K (.int .i64 4) [])
                            (K (.int .i64 0) [])))
                        (cond (k == 11)
                          (K (.int .i64 3) [])
                          (cond (k == 4)
                            (K (.int .i64 4) [])
                            (K (.int .i64 0) []))))))
                  (cond (k == 3)
                    (K (.int .i64 2) [])
                    (cond (k == 1)
                      (cond (k == 1)
                        (K (.int .i64 3) [])
                        (cond (k == 4)
                          (K (.int .i64 4) [])
                          (K (.int .i64 0) [])))
                      (cond (k == 9)
                        (cond (k == 9)
                          (K (.int .i64 3) [])
                          (cond (k == 4)
                            (K (.int .i64 4) [])
                            (K (.int .i64 0) [])))
                        (cond (k == 11)
                          (K (.int .i64 3) [])
                          (cond (k == 4)
                            (K (.int .i64 4) [])
                            (K (.int .i64 0) []))))))))
              (cond (k == 16)
                (K (.int .i64 1) [])
                (cond (k == 2)
                  (cond (k == 2)
                    (K (.int .i64 2) [])
                    (cond (k == 1)
                      (cond (k == 1)
                        (K (.int .i64 3) [])
                        (cond (k == 4)
                          (K (.int .i64 4) [])
                          (K (.int .i64 0) [])))
                      (cond (k == 9)
                        (cond (k == 9)
                          (K (.int .i64 3) [])
                          (cond (k == 4)
                            (K (.int .i64 4) [])
                            (K (.int .i64 0) [])))
                        (cond (k == 11)
                          (K (.int .i64 3) [])
                          (cond (k == 4)
                            (K (.int .i64 4) [])
                            (K (.int .i64 0) []))))))
                  (cond (k == 3)
                    (K (.int .i64 2) [])
                    (cond (k == 1)
                      (cond (k == 1)
                        (K (.int .i64 3) [])
                        (cond (k == 4)
                          (K (.int .i64 4) [])
                          (K (.int .i64 0) [])))
                      (cond (k == 9)
                        (cond (k == 9)
                          (K (.int .i64 3) [])
                          (cond (k == 4)
                            (K (.int .i64 4) [])
                            (K (.int .i64 0) [])))
                        (cond (k == 11)
                          (K (.int .i64 3) [])
                          (cond (k == 4)
                            (K (.int .i64 4) [])
                            (K (.int .i64 0) []))))))))))))) := by kernel_rfl
noncomputable def s_spec_l02Count : Sm := semT [.cell tI] fun x => match x with | (k, _) => .int .i64 (kindN k)
theorem ok_spec_l02Count : FnOk Try.prog 75 s_spec_l02Count := fnOk_typed (fnOk_runC (C := c_spec_l02Count) rfl mixed .nil .nil .nil Try.func75 (by kernel_rfl)) fun (x : ((Int) × Unit)) wf K h => by
  obtain ⟨k, ⟨⟩⟩ := x
  replace h : K (.int .i64 (kindN k)) [] := h
  rw [w_spec_l02Count k K]
  cases hk : isK k with
  | true =>
    rcases kinds hk with e | e | e | e | e | e | e | e | e | e | e | e | e | e | e | e | e <;> subst e <;> exact h
  | false =>
    simp only [kindN, kindC, kindA, kindS, kindV_no hk] at h
    simp only [isK_ne hk (j := 0) (by decide), isK_ne hk (j := 1) (by decide), isK_ne hk (j := 2) (by decide), isK_ne hk (j := 3) (by decide), isK_ne hk (j := 4) (by decide), isK_ne hk (j := 5) (by decide), isK_ne hk (j := 6) (by decide), isK_ne hk (j := 7) (by decide), isK_ne hk (j := 8) (by decide), isK_ne hk (j := 9) (by decide), isK_ne hk (j := 10) (by decide), isK_ne hk (j := 11) (by decide), isK_ne hk (j := 12) (by decide), isK_ne hk (j := 13) (by decide), isK_ne hk (j := 14) (by decide), isK_ne hk (j := 15) (by decide), isK_ne hk (j := 16) (by decide), cond_false]
    exact h

/-! spec.l02Leaf -/
noncomputable def c_spec_l02Leaf : Ctx := mkC Try.prog tyT [(74, s_spec_l00In)] [] [] 5 (fun _ => none) 0
theorem w_spec_l02Leaf (k : Int) (K : V → Heap → Prop) : wpFn c_spec_l02Leaf Try.f80 (encAs [.cell tI] (k, ())) [] K =
  K (.bool (inR k 0 4)) [] := by kernel_rfl
noncomputable def s_spec_l02Leaf : Sm := semT [.cell tI] fun x => match x with | (k, _) => .bool (inR k 0 4)
theorem ok_spec_l02Leaf : FnOk Try.prog 80 s_spec_l02Leaf := fnOk_typed (fnOk_runC (C := c_spec_l02Leaf) rfl mixed (.cons ok_spec_l00In .nil) .nil .nil Try.func80 (by kernel_rfl)) fun (x : ((Int) × Unit)) wf K h => by
  obtain ⟨k, ⟨⟩⟩ := x
  replace h : K (.bool (inR k 0 4)) [] := h
  rw [w_spec_l02Leaf k K]
  exact h

/-! spec.l02Two -/
noncomputable def c_spec_l02Two : Ctx := mkC Try.prog tyT [(74, s_spec_l00In)] [] [] 5 (fun _ => none) 0
theorem w_spec_l02Two (k : Int) (K : V → Heap → Prop) : wpFn c_spec_l02Two Try.f81 (encAs [.cell tI] (k, ())) [] K =
  K (.bool (inR k 5 8)) [] := by kernel_rfl
noncomputable def s_spec_l02Two : Sm := semT [.cell tI] fun x => match x with | (k, _) => .bool (inR k 5 8)
theorem ok_spec_l02Two : FnOk Try.prog 81 s_spec_l02Two := fnOk_typed (fnOk_runC (C := c_spec_l02Two) rfl mixed (.cons ok_spec_l00In .nil) .nil .nil Try.func81 (by kernel_rfl)) fun (x : ((Int) × Unit)) wf K h => by
  obtain ⟨k, ⟨⟩⟩ := x
  replace h : K (.bool (inR k 5 8)) [] := h
  rw [w_spec_l02Two k K]
  exact h

/-! spec.l02Axis -/
noncomputable def c_spec_l02Axis : Ctx := mkC Try.prog tyT [(74, s_spec_l00In)] [] [] 5 (fun _ => none) 0
theorem w_spec_l02Axis (k : Int) (K : V → Heap → Prop) : wpFn c_spec_l02Axis Try.f60 (encAs [.cell tI] (k, ())) [] K =
  K (.bool (inR k 12 14)) [] := by kernel_rfl
noncomputable def s_spec_l02Axis : Sm := semT [.cell tI] fun x => match x with | (k, _) => .bool (inR k 12 14)
theorem ok_spec_l02Axis : FnOk Try.prog 60 s_spec_l02Axis := fnOk_typed (fnOk_runC (C := c_spec_l02Axis) rfl mixed (.cons ok_spec_l00In .nil) .nil .nil Try.func60 (by kernel_rfl)) fun (x : ((Int) × Unit)) wf K h => by
  obtain ⟨k, ⟨⟩⟩ := x
  replace h : K (.bool (inR k 12 14)) [] := h
  rw [w_spec_l02Axis k K]
  exact h





end Go.Proofs.Ytmkomfhnomnbiaa
