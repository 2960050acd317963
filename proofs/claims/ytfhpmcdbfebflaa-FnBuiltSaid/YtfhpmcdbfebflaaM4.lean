/- Merged texts: Shape Shapes FlA FlB FlC FlD FlE FlF FlG FlH FlI FlJ EvFlr FlK FlS FlR EvEven Sine. -/
import Derived.Test.YtfhpmcdbfebflaaM3
import Ieee.Arith
/- Shapes: when they are valid. -/
set_option linter.unusedVariables false
set_option linter.unusedSimpArgs false
set_option maxRecDepth 100000
namespace Go.Proofs.Ytfhpmcdbfebflaa
open Go.Ev
abbrev tN : Ty := .pair tI (.pair tI (.pair tI (.slice tF)))
abbrev NodeD := Int × Int × Int × List Nat
abbrev tR : Ty := .pair tI (.pair tI (.pair .bool tI))

def inR (n lo hi : Int) : Bool := decide (n ≥ lo) && decide (n ≤ hi)
theorem inR_iff {n lo hi : Int} : inR n lo hi = true ↔ lo ≤ n ∧ n ≤ hi := by simp [inR]
def kindL : List (Int × Int × Bool × Int) := [(1, 0, false, 1), (3, 0, false, 1), (2, 0, false, 1), (2, 0, false, 1), (4, 0, false, 0), (0, 2, false, 0), (0, 2, false, 0), (0, 2, false, 0), (1, 2, false, 2), (3, 1, false, 0), (1, 1, false, 2), (3, 1, false, 2), (1, 1, true, 0), (0, 1, true, 0), (1, 1, true, 2), (1, 1, false, 0), (1, 1, false, 1)]
def isK (k : Int) : Bool := inR k 0 16
def kindV (k : Int) : Int × Int × Bool × Int := bif isK k then (kindL[k.toNat]?).getD (0, 0, false, 0) else (0, 0, false, 0)
def kindN (k : Int) : Int := (kindV k).1
def kindC (k : Int) : Int := (kindV k).2.1
def kindA (k : Int) : Bool := (kindV k).2.2.1
def kindS (k : Int) : Int := (kindV k).2.2.2
theorem kinds {k : Int} (h : isK k = true) : k = 0 ∨ k = 1 ∨ k = 2 ∨ k = 3 ∨ k = 4 ∨ k = 5 ∨ k = 6 ∨ k = 7 ∨ k = 8 ∨ k = 9 ∨ k = 10 ∨ k = 11 ∨ k = 12 ∨ k = 13 ∨ k = 14 ∨ k = 15 ∨ k = 16 := by
  have := inR_iff.1 h
  omega
theorem kindV_no {k : Int} (h : isK k = false) : kindV k = (0, 0, false, 0) := by unfold kindV; rw [h]; rfl
theorem isK_ne {k : Int} (h : isK k = false) {j : Int} (hj : 0 ≤ j ∧ j ≤ 16) : (k == j) = false := by
  refine beq_eq_false_iff_ne.2 fun e => ?_
  subst e
  rw [show isK k = true from inR_iff.2 hj] at h
  cases h

def finN (x : Nat) : Bool := feq FloatKind.f32 (fsub FloatKind.f32 x x) 0
def sgnB (s : Int) (x : Nat) : Bool := (s == 1 && flt FloatKind.f32 x 0) || (s == 2 && fle FloatKind.f32 x 0)
def numsB (k : Int) (xs : List Nat) : Bool := isK k && ((xs.length : Int) == kindN k && (!xs.any (fun x => !finN x) && !xs.any (fun x => sgnB (kindS k) x)))
def axB (k a b : Int) : Bool := (decide (kindC k > 0) || a == 0) && (kindC k == 2 || (b == 0 || (kindA k && inR b 0 2)))
theorem kindC_range (k : Int) : 0 ≤ kindC k ∧ kindC k ≤ 2 := by
  cases hk : isK k with
  | true => rcases kinds hk with e | e | e | e | e | e | e | e | e | e | e | e | e | e | e | e | e <;> subst e <;> decide
  | false => simp only [kindC, kindV_no hk]; decide
def kids (k a b : Int) : List Int := [a, b].take (kindC k).toNat

abbrev kidsN (n : NodeD) : List Int := kids n.1 n.2.1 n.2.2.1
def nodeB (i : Int) (n : NodeD) : Bool := numsB n.1 n.2.2.2 && (axB n.1 n.2.1 n.2.2.1 && (kidsN n).all (fun c => inR c 0 (i - 1)))
def inc1 (u : List Int) (c : Int) : List Int := u.set c.toNat (((u[c.toNat]?).getD 0) + 1)
def incs (u cs : List Int) : List Int := cs.foldl inc1 u
def usesOf (ns : List NodeD) (u : List Int) : List Int := ns.foldl (fun u n => incs u (kidsN n)) u
def nodesB (ns : List NodeD) : Bool := (List.range ns.length).all fun i => match ns[i]? with | some n => nodeB i n | none => true
def usesAt (ns : List NodeD) (i : Nat) : List Int := usesOf (ns.take i) (List.replicate ns.length 0)
def validS (ns : List NodeD) : Bool := inR ns.length 1 16 && (nodesB ns && ((usesAt ns ns.length).take (ns.length - 1)).all (fun x => x == 1))
def OkUp (ns : List NodeD) (i : Nat) : Prop := ∀ (j : Nat) (n : NodeD), j < i → ns[j]? = some n → nodeB j n = true
theorem okUp_all {ns : List NodeD} (h : OkUp ns ns.length) : nodesB ns = true := by
  refine List.all_eq_true.2 fun j hj => ?_
  cases e : ns[j]? with
  | none => rfl
  | some n => exact h j n (lt_of_get e) e
theorem valid_no {ns : List NodeD} {i : Nat} (hi : i < ns.length) (h : nodeB i (ns[i]'hi) = false) : validS ns = false := by
  have : nodesB ns = false := by
    refine List.all_eq_false.2 ⟨i, by simpa using hi, ?_⟩
    rw [get_lt hi]
    simp [h]
  unfold validS
  rw [this, Bool.false_and, Bool.and_false]
theorem okUp_succ {ns : List NodeD} {i : Nat} (hi : i < ns.length) (h : OkUp ns i) (hn : nodeB i (ns[i]'hi) = true) : OkUp ns (i + 1) := by
  intro j n hj e
  by_cases h' : j < i
  · exact h j n h' e
  · have : j = i := by omega
    subst this
    rw [get_lt hi] at e
    cases e
    exact hn
theorem usesAt_succ {ns : List NodeD} {i : Nat} (hi : i < ns.length) : usesAt ns (i + 1) = incs (usesAt ns i) (kidsN (ns[i]'hi)) := by
  unfold usesAt usesOf
  rw [take_one hi, List.foldl_append]
  rfl
theorem incs_take (u : List Int) {cs : List Int} {j : Nat} (hj : j < cs.length) : incs u (cs.take (j + 1)) = inc1 (incs u (cs.take j)) (cs[j]'hj) := by
  unfold incs
  rw [take_one hj, List.foldl_append]
  rfl
theorem inc1_facts {u : List Int} {c : Int} {B : Int} {i : Nat} (hc : 0 ≤ c ∧ c < i) (hu : ∀ x ∈ u, 0 ≤ x ∧ x ≤ B) (hB : 0 ≤ B) :
    (inc1 u c).length = u.length ∧ (∀ x ∈ inc1 u c, 0 ≤ x ∧ x ≤ B + 1) ∧ (∀ p, i ≤ p → (inc1 u c)[p]? = u[p]?) := by
  unfold inc1
  refine ⟨List.length_set, fun x hx => ?_, fun p hp => ?_⟩
  · rcases List.mem_or_eq_of_mem_set hx with h | h
    · have := hu x h; omega
    · subst h
      cases e : u[c.toNat]? with
      | none => simp; omega
      | some y => have := hu y (List.mem_of_getElem? e); simp; omega
  · rw [List.getElem?_set_ne (by omega)]
theorem incs_facts {i : Nat} : ∀ (cs : List Int) {u : List Int} {B : Int}, (∀ c ∈ cs, 0 ≤ c ∧ c < i) → (∀ x ∈ u, 0 ≤ x ∧ x ≤ B) → 0 ≤ B →
    (incs u cs).length = u.length ∧ (∀ x ∈ incs u cs, 0 ≤ x ∧ x ≤ B + cs.length) ∧ (∀ p, i ≤ p → (incs u cs)[p]? = u[p]?)
  | [], u, B, _, hu, hB => ⟨rfl, fun x hx => by have := hu x hx; simp; omega, fun _ _ => rfl⟩
  | c :: cs, u, B, hc, hu, hB => by
    obtain ⟨h1, h2, h3⟩ := inc1_facts (hc c (by simp)) hu hB
    obtain ⟨k1, k2, k3⟩ := incs_facts cs (u := inc1 u c) (B := B + 1) (fun c' hc' => hc c' (by simp [hc'])) h2 (by omega)
    refine ⟨k1.trans h1, fun x hx => ?_, fun p hp => (k3 p hp).trans (h3 p hp)⟩
    have := k2 x hx
    rw [List.length_cons]
    omega
theorem nodeB_kids {i : Int} {n : NodeD} (h : nodeB i n = true) : ∀ c ∈ kidsN n, 0 ≤ c ∧ c ≤ i - 1 := by
  unfold nodeB at h
  simp only [Bool.and_eq_true] at h
  intro c hc
  exact inR_iff.1 (List.all_eq_true.1 h.2.2 c hc)
theorem kids_len (n : NodeD) : (kidsN n).length ≤ 2 := by simp only [kidsN, kids, List.length_take, List.length_cons, List.length_nil]; omega
theorem uses_facts {ns : List NodeD} : ∀ (i : Nat), i ≤ ns.length → OkUp ns i →
    (usesAt ns i).length = ns.length ∧ (∀ x ∈ usesAt ns i, 0 ≤ x ∧ x ≤ 2 * (i : Int)) ∧ (∀ p x, i ≤ p + 1 → (usesAt ns i)[p]? = some x → x = 0)
  | 0, _, _ => by
    refine ⟨by simp [usesAt, usesOf], fun x hx => ?_, fun p x _ hx => ?_⟩
    · simp only [usesAt, usesOf, List.take_zero, List.foldl_nil, List.mem_replicate] at hx
      omega
    · simp only [usesAt, usesOf, List.take_zero, List.foldl_nil, List.getElem?_replicate] at hx
      split at hx
      · cases hx; rfl
      · cases hx
  | i + 1, hi, hok => by
    have hlt : i < ns.length := by omega
    obtain ⟨h1, h2, h3⟩ := uses_facts i (by omega) fun j n hj => hok j n (by omega)
    have hn := hok i _ (Nat.lt_succ_self i) (get_lt hlt)
    obtain ⟨k1, k2, k3⟩ := incs_facts (i := i) (kidsN (ns[i]'hlt)) (u := usesAt ns i) (B := 2 * (i : Int)) (fun c hc => by have := nodeB_kids hn c hc; omega) h2 (by omega)
    rw [usesAt_succ hlt]
    refine ⟨k1.trans h1, fun x hx => ?_, fun p x hp hx => ?_⟩
    · have := k2 x hx
      have := kids_len (ns[i]'hlt)
      omega
    · rw [k3 p (by omega)] at hx
      exact h3 p x (by omega) hx
theorem kind_cases {k : Int} (a b : Int) (h : isK k = true) : (inR k 0 4 = true ∧ inR k 5 8 = false ∧ kids k a b = []) ∨ (inR k 0 4 = false ∧ inR k 5 8 = false ∧ kids k a b = [a]) ∨ (inR k 0 4 = false ∧ inR k 5 8 = true ∧ kids k a b = [a, b]) := by
  rcases kinds h with e | e | e | e | e | e | e | e | e | e | e | e | e | e | e | e | e <;> subst e <;> first | exact .inl ⟨rfl, rfl, rfl⟩ | exact .inr (.inl ⟨rfl, rfl, rfl⟩) | exact .inr (.inr ⟨rfl, rfl, rfl⟩)
theorem kind_ax {k : Int} (a b : Int) (h : isK k = true) : (inR k 0 4 = true ∧ kids k a b = [] ∧ axB k a b = (a == 0 && b == 0)) ∨ (inR k 0 4 = false ∧ inR k 5 8 = false ∧ inR k 12 14 = false ∧ kids k a b = [a] ∧ axB k a b = (b == 0)) ∨
    (inR k 0 4 = false ∧ inR k 5 8 = false ∧ inR k 12 14 = true ∧ kids k a b = [a] ∧ axB k a b = inR b 0 2) ∨ (inR k 0 4 = false ∧ inR k 5 8 = true ∧ kids k a b = [a, b] ∧ axB k a b = true) := by
  have hb : (b == 0 || inR b 0 2) = inR b 0 2 := by
    by_cases e : b = 0
    · subst e; rfl
    · rw [beq_eq_false_iff_ne.2 e, Bool.false_or]
  have leaf : ∀ k, kindC k = 0 → kindA k = false → axB k a b = (a == 0 && b == 0) := by
    intro k h1 h2
    unfold axB
    rw [h1, h2]
    cases a == 0 <;> cases b == 0 <;> rfl
  have one : ∀ k, kindC k = 1 → kindA k = false → axB k a b = (b == 0) := by
    intro k h1 h2
    unfold axB
    rw [h1, h2]
    cases a == 0 <;> cases b == 0 <;> rfl
  have ax : ∀ k, kindC k = 1 → kindA k = true → axB k a b = inR b 0 2 := by
    intro k h1 h2
    unfold axB
    rw [h1, h2, ← hb]
    cases a == 0 <;> cases b == 0 <;> cases inR b 0 2 <;> rfl
  have two : ∀ k, kindC k = 2 → axB k a b = true := by
    intro k h1
    unfold axB
    rw [h1]
    cases a == 0 <;> rfl
  rcases kinds h with e | e | e | e | e | e | e | e | e | e | e | e | e | e | e | e | e <;> subst e <;> first
    | exact .inl ⟨rfl, rfl, leaf _ rfl rfl⟩
    | exact .inr (.inl ⟨rfl, rfl, rfl, rfl, one _ rfl rfl⟩)
    | exact .inr (.inr (.inl ⟨rfl, rfl, rfl, rfl, ax _ rfl rfl⟩))
    | exact .inr (.inr (.inr ⟨rfl, rfl, rfl, two _ rfl⟩))
theorem nodeB_isK {i : Int} {n : NodeD} (h : nodeB i n = true) : isK n.1 = true := by
  unfold nodeB numsB at h
  simp only [Bool.and_eq_true] at h
  exact h.1.1
theorem all_one (us : List Int) : (!us.any fun x => x != 1) = us.all fun x => x == 1 := by
  induction us with
  | nil => rfl
  | cons x us ih =>
    simp only [List.any_cons, List.all_cons, Bool.not_or, bne, Bool.not_not] at ih ⊢
    rw [ih]
theorem valid_last {ns : List NodeD} (h : inR ns.length 1 16 = true) (hok : OkUp ns ns.length) : validS ns = ((usesAt ns ns.length).take (ns.length - 1)).all (fun x => x == 1) := by
  unfold validS
  rw [h, okUp_all hok, Bool.true_and, Bool.true_and]

noncomputable def c_impl_in : Ctx := mkC Try.prog tyT [] [] [] 15 (fun _ => none) 0
theorem w_impl_in (n lo hi : Int) (K : V → Heap → Prop) : wpFn c_impl_in Try.f79 (encAs [.cell tI, .cell tI, .cell tI] (n, lo, hi, ())) [] K =
 cond (decide (n ≥ lo))
 (K (.bool (decide (n ≤ hi))) [])
 (K (.bool false) []) := by kernel_rfl
noncomputable def s_impl_in : Sm := semT [.cell tI, .cell tI, .cell tI] fun x => match x with | (n, lo, hi, _) => .bool (inR n lo hi)
theorem ok_impl_in : FnOk Try.prog 79 s_impl_in := fnOk_typed (fnOk_runC (C := c_impl_in) rfl mixed .nil .nil .nil Try.func79 (by kernel_rfl)) fun (x : ((Int) × (Int) × (Int) × Unit)) wf K h => by
  obtain ⟨n, lo, hi, ⟨⟩⟩ := x
  replace h : K (.bool (inR n lo hi)) [] := h
  rw [w_impl_in n lo hi K]
  revert h
  unfold inR
  cases decide (n ≥ lo) <;> exact id

noncomputable def c_spec_l00In : Ctx := mkC Try.prog tyT [] [] [] 15 (fun _ => none) 0
theorem w_spec_l00In (n lo hi : Int) (K : V → Heap → Prop) : wpFn c_spec_l00In Try.f169 (encAs [.cell tI, .cell tI, .cell tI] (n, lo, hi, ())) [] K =
 cond (decide (n ≥ lo))
 (K (.bool (decide (n ≤ hi))) [])
 (K (.bool false) []) := by kernel_rfl
noncomputable def s_spec_l00In : Sm := semT [.cell tI, .cell tI, .cell tI] fun x => match x with | (n, lo, hi, _) => .bool (inR n lo hi)
theorem ok_spec_l00In : FnOk Try.prog 169 s_spec_l00In := fnOk_typed (fnOk_runC (C := c_spec_l00In) rfl mixed .nil .nil .nil Try.func169 (by kernel_rfl)) fun (x : ((Int) × (Int) × (Int) × Unit)) wf K h => by
  obtain ⟨n, lo, hi, ⟨⟩⟩ := x
  replace h : K (.bool (inR n lo hi)) [] := h
  rw [w_spec_l00In n lo hi K]
  revert h
  unfold inR
  cases decide (n ≥ lo) <;> exact id

noncomputable def c_impl_ruleOf : Ctx := mkC Try.prog tyT [] [] [] 51 (fun _ => none) 0
theorem w_impl_ruleOf (k : Int) (K : V → Heap → Prop) : wpFn c_impl_ruleOf Try.f98 (encAs [.cell tI] (k, ())) [] K =
 cond (k == 0)
 (K (.tuple [(.agg [(.int .i64 1), (.int .i64 0), (.bool false), (.int .i64 1)]), (.bool true)]) [])
 (cond (k == 1)
 (K (.tuple [(.agg [(.int .i64 3), (.int .i64 0), (.bool false), (.int .i64 1)]), (.bool true)]) [])
 (cond (k == 2)
 (cond (k == 2)
 (K (.tuple [(.agg [(.int .i64 2), (.int .i64 0), (.bool false), (.int .i64 1)]), (.bool true)]) [])
 (cond (k == 4)
 (K (.tuple [(.agg [(.int .i64 4), (.int .i64 0), (.bool false), (.int .i64 0)]), (.bool true)]) [])
 (cond (k == 5)
 (cond (k == 5)
 (K (.tuple [(.agg [(.int .i64 0), (.int .i64 2), (.bool false), (.int .i64 0)]), (.bool true)]) [])
 (cond (k == 8)
 (K (.tuple [(.agg [(.int .i64 1), (.int .i64 2), (.bool false), (.int .i64 2)]), (.bool true)]) [])
 (cond (k == 9)
 (K (.tuple [(.agg [(.int .i64 3), (.int .i64 1), (.bool false), (.int .i64 0)]), (.bool true)]) [])
 (cond (k == 10)
 (K (.tuple [(.agg [(.int .i64 1), (.int .i64 1), (.bool false), (.int .i64 2)]), (.bool true)]) [])
 (cond (k == 11)
 (K (.tuple [(.agg [(.int .i64 3), (.int .i64 1), (.bool false), (.int .i64 2)]), (.bool true)]) [])
 (cond (k == 12)
 (K (.tuple [(.agg [(.int .i64 1), (.int .i64 1), (.bool true), (.int .i64 0)]), (.bool true)]) [])
 (cond (k == 13)
 (K (.tuple [(.agg [(.int .i64 0), (.int .i64 1), (.bool true), (.int .i64 0)]), (.bool true)]) [])
 (cond (k == 14)
 (K (.tuple [(.agg [(.int .i64 1), (.int .i64 1), (.bool true), (.int .i64 2)]), (.bool true)]) [])
 (cond (k == 15)
 (K (.tuple [(.agg [(.int .i64 1), (.int .i64 1), (.bool false), (.int .i64 0)]), (.bool true)]) [])
 (cond (k == 16)
 (K (.tuple [(.agg [(.int .i64 1), (.int .i64 1), (.bool false), (.int .i64 1)]), (.bool true)]) [])
 (K (.tuple [(.agg [(.int .i64 0), (.int .i64 0), (.bool false), (.int .i64 0)]), (.bool false)]) [])))))))))))
 (cond (k == 6)
 (cond (k == 6)
 (K (.tuple [(.agg [(.int .i64 0), (.int .i64 2), (.bool false), (.int .i64 0)]), (.bool true)]) [])
 (cond (k == 8)
 (K (.tuple [(.agg [(.int .i64 1), (.int .i64 2), (.bool false), (.int .i64 2)]), (.bool true)]) [])
 (cond (k == 9)
 (K (.tuple [(.agg [(.int .i64 3), (.int .i64 1), (.bool false), (.int .i64 0)]), (.bool true)]) [])
 (cond (k == 10)
 (K (.tuple [(.agg [(.int .i64 1), (.int .i64 1), (.bool false), (.int .i64 2)]), (.bool true)]) [])
 (cond (k == 11)
 (K (.tuple [(.agg [(.int .i64 3), (.int .i64 1), (.bool false), (.int .i64 2)]), (.bool true)]) [])
 (cond (k == 12)
 (K (.tuple [(.agg [(.int .i64 1), (.int .i64 1), (.bool true), (.int .i64 0)]), (.bool true)]) [])
 (cond (k == 13)
 (K (.tuple [(.agg [(.int .i64 0), (.int .i64 1), (.bool true), (.int .i64 0)]), (.bool true)]) [])
 (cond (k == 14)
 (K (.tuple [(.agg [(.int .i64 1), (.int .i64 1), (.bool true), (.int .i64 2)]), (.bool true)]) [])
 (cond (k == 15)
 (K (.tuple [(.agg [(.int .i64 1), (.int .i64 1), (.bool false), (.int .i64 0)]), (.bool true)]) [])
 (cond (k == 16)
 (K (.tuple [(.agg [(.int .i64 1), (.int .i64 1), (.bool false), (.int .i64 1)]), (.bool true)]) [])
 (K (.tuple [(.agg [(.int .i64 0), (.int .i64 0), (.bool false), (.int .i64 0)]), (.bool false)]) [])))))))))))
 (cond (k == 7)
 (K (.tuple [(.agg [(.int .i64 0), (.int .i64 2), (.bool false), (.int .i64 0)]), (.bool true)]) [])
 (cond (k == 8)
 (K (.tuple [(.agg [(.int .i64 1), (.int .i64 2), (.bool false), (.int .i64 2)]), (.bool true)]) [])
 (cond (k == 9)
 (K (.tuple [(.agg [(.int .i64 3), (.int .i64 1), (.bool false), (.int .i64 0)]), (.bool true)]) [])
 (cond (k == 10)
 (K (.tuple [(.agg [(.int .i64 1), (.int .i64 1), (.bool false), (.int .i64 2)]), (.bool true)]) [])
 (cond (k == 11)
 (K (.tuple [(.agg [(.int .i64 3), (.int .i64 1), (.bool false), (.int .i64 2)]), (.bool true)]) [])
 (cond (k == 12)
 (K (.tuple [(.agg [(.int .i64 1), (.int .i64 1), (.bool true), (.int .i64 0)]), (.bool true)]) [])
 (cond (k == 13)
 (K (.tuple [(.agg [(.int .i64 0), (.int .i64 1), (.bool true), (.int .i64 0)]), (.bool true)]) [])
 (cond (k == 14)
 (K (.tuple [(.agg [(.int .i64 1), (.int .i64 1), (.bool true), (.int .i64 2)]), (.bool true)]) [])
 (cond (k == 15)
 (K (.tuple [(.agg [(.int .i64 1), (.int .i64 1), (.bool false), (.int .i64 0)]), (.bool true)]) [])
 (cond (k == 16)
 (K (.tuple [(.agg [(.int .i64 1), (.int .i64 1), (.bool false), (.int .i64 1)]), (.bool true)]) [])
 (K (.tuple [(.agg [(.int .i64 0), (.int .i64 0), (.bool false), (.int .i64 0)]), (.bool false)]) [])))))))))))))))
 (cond (k == 3)
 (K (.tuple [(.agg [(.int .i64 2), (.int .i64 0), (.bool false), (.int .i64 1)]), (.bool true)]) [])
 (cond (k == 4)
 (K (.tuple [(.agg [(.int .i64 4), (.int .i64 0), (.bool false), (.int .i64 0)]), (.bool true)]) [])
 (cond (k == 5)
 (cond (k == 5)
 (K (.tuple [(.agg [(.int .i64 0), (.int .i64 2), (.bool false), (.int .i64 0)]), (.bool true)]) [])
 (cond (k == 8)
 (K (.tuple [(.agg [(.int .i64 1), (.int .i64 2), (.bool false), (.int .i64 2)]), (.bool true)]) [])
 (cond (k == 9)
 (K (.tuple [(.agg [(.int .i64 3), (.int .i64 1), (.bool false), (.int .i64 0)]), (.bool true)]) [])
 (cond (k == 10)
 (K (.tuple [(.agg [(.int .i64 1), (.int .i64 1), (.bool false), (.int .i64 2)]), (.bool true)]) [])
 (cond (k == 11)
 (K (.tuple [(.agg [(.int .i64 3), (.int .i64 1), (.bool false), (.int .i64 2)]), (.bool true)]) [])
 (cond (k == 12)
 (K (.tuple [(.agg [(.int .i64 1), (.int .i64 1), (.bool true), (.int .i64 0)]), (.bool true)]) [])
 (cond (k == 13)
 (K (.tuple [(.agg [(.int .i64 0), (.int .i64 1), (.bool true), (.int .i64 0)]), (.bool true)]) [])
 (cond (k == 14)
 (K (.tuple [(.agg [(.int .i64 1), (.int .i64 1), (.bool true), (.int .i64 2)]), (.bool true)]) [])
 (cond (k == 15)
 (K (.tuple [(.agg [(.int .i64 1), (.int .i64 1), (.bool false), (.int .i64 0)]), (.bool true)]) [])
 (cond (k == 16)
 (K (.tuple [(.agg [(.int .i64 1), (.int .i64 1), (.bool false), (.int .i64 1)]), (.bool true)]) [])
 (K (.tuple [(.agg [(.int .i64 0), (.int .i64 0), (.bool false), (.int .i64 0)]), (.bool false)]) [])))))))))))
 (cond (k == 6)
 (cond (k == 6)
 (K (.tuple [(.agg [(.int .i64 0), (.int .i64 2), (.bool false), (.int .i64 0)]), (.bool true)]) [])
 (cond (k == 8)
 (K (.tuple [(.agg [(.int .i64 1), (.int .i64 2), (.bool false), (.int .i64 2)]), (.bool true)]) [])
 (cond (k == 9)
 (K (.tuple [(.agg [(.int .i64 3), (.int .i64 1), (.bool false), (.int .i64 0)]), (.bool true)]) [])
 (cond (k == 10)
 (K (.tuple [(.agg [(.int .i64 1), (.int .i64 1), (.bool false), (.int .i64 2)]), (.bool true)]) [])
 (cond (k == 11)
 (K (.tuple [(.agg [(.int .i64 3), (.int .i64 1), (.bool false), (.int .i64 2)]), (.bool true)]) [])
 (cond (k == 12)
 (K (.tuple [(.agg [(.int .i64 1), (.int .i64 1), (.bool true), (.int .i64 0)]), (.bool true)]) [])
 (cond (k == 13)
 (K (.tuple [(.agg [(.int .i64 0), (.int .i64 1), (.bool true), (.int .i64 0)]), (.bool true)]) [])
 (cond (k == 14)
 (K (.tuple [(.agg [(.int .i64 1), (.int .i64 1), (.bool true), (.int .i64 2)]), (.bool true)]) [])
 (cond (k == 15)
 (K (.tuple [(.agg [(.int .i64 1), (.int .i64 1), (.bool false), (.int .i64 0)]), (.bool true)]) [])
 (cond (k == 16)
 (K (.tuple [(.agg [(.int .i64 1), (.int .i64 1), (.bool false), (.int .i64 1)]), (.bool true)]) [])
 (K (.tuple [(.agg [(.int .i64 0), (.int .i64 0), (.bool false), (.int .i64 0)]), (.bool false)]) [])))))))))))
 (cond (k == 7)
 (K (.tuple [(.agg [(.int .i64 0), (.int .i64 2), (.bool false), (.int .i64 0)]), (.bool true)]) [])
 (cond (k == 8)
 (K (.tuple [(.agg [(.int .i64 1), (.int .i64 2), (.bool false), (.int .i64 2)]), (.bool true)]) [])
 (cond (k == 9)
 (K (.tuple [(.agg [(.int .i64 3), (.int .i64 1), (.bool false), (.int .i64 0)]), (.bool true)]) [])
 (cond (k == 10)
 (K (.tuple [(.agg [(.int .i64 1), (.int .i64 1), (.bool false), (.int .i64 2)]), (.bool true)]) [])
 (cond (k == 11)
 (K (.tuple [(.agg [(.int .i64 3), (.int .i64 1), (.bool false), (.int .i64 2)]), (.bool true)]) [])
 (cond (k == 12)
 (K (.tuple [(.agg [(.int .i64 1), (.int .i64 1), (.bool true), (.int .i64 0)]), (.bool true)]) [])
 (cond (k == 13)
 (K (.tuple [(.agg [(.int .i64 0), (.int .i64 1), (.bool true), (.int .i64 0)]), (.bool true)]) [])
 (cond (k == 14)
 (K (.tuple [(.agg [(.int .i64 1), (.int .i64 1), (.bool true), (.int .i64 2)]), (.bool true)]) [])
 (cond (k == 15)
 (K (.tuple [(.agg [(.int .i64 1), (.int .i64 1), (.bool false), (.int .i64 0)]), (.bool true)]) [])
 (cond (k == 16)
 (K (.tuple [(.agg [(.int .i64 1), (.int .i64 1), (.bool false), (.int .i64 1)]), (.bool true)]) [])
 (K (.tuple [(.agg [(.int .i64 0), (.int .i64 0), (.bool false), (.int .i64 0)]), (.bool false)]) []))))))))))))))))) := by kernel_rfl
noncomputable def s_impl_ruleOf : Sm := semT [.cell tI] fun x => match x with | (k, _) => .tuple [.agg [.int .i64 (kindN k), .int .i64 (kindC k), .bool (kindA k), .int .i64 (kindS k)], .bool (isK k)]
theorem ok_impl_ruleOf : FnOk Try.prog 98 s_impl_ruleOf := fnOk_typed (fnOk_runC (C := c_impl_ruleOf) rfl mixed .nil .nil .nil Try.func98 (by kernel_rfl)) fun (x : ((Int) × Unit)) wf K h => by
  obtain ⟨k, ⟨⟩⟩ := x
  replace h : K (.tuple [.agg [.int .i64 (kindN k), .int .i64 (kindC k), .bool (kindA k), .int .i64 (kindS k)], .bool (isK k)]) [] := h
  rw [w_impl_ruleOf k K]
  cases hk : isK k with
  | true =>
    rw [hk] at h
    rcases kinds hk with e | e | e | e | e | e | e | e | e | e | e | e | e | e | e | e | e <;> subst e <;> exact h
  | false =>
    rw [hk] at h
    simp only [kindN, kindC, kindA, kindS, kindV_no hk] at h
    simp only [isK_ne hk (j := 0) (by decide), isK_ne hk (j := 1) (by decide), isK_ne hk (j := 2) (by decide), isK_ne hk (j := 3) (by decide), isK_ne hk (j := 4) (by decide), isK_ne hk (j := 5) (by decide), isK_ne hk (j := 6) (by decide), isK_ne hk (j := 7) (by decide), isK_ne hk (j := 8) (by decide), isK_ne hk (j := 9) (by decide), isK_ne hk (j := 10) (by decide), isK_ne hk (j := 11) (by decide), isK_ne hk (j := 12) (by decide), isK_ne hk (j := 13) (by decide), isK_ne hk (j := 14) (by decide), isK_ne hk (j := 15) (by decide), isK_ne hk (j := 16) (by decide), cond_false]
    exact h

noncomputable def c_impl_IsFinite : Ctx := mkC Try.prog tyT [] [] [] 7 (fun _ => none) 0
theorem w_impl_IsFinite (x : Nat) (K : V → Heap → Prop) : wpFn c_impl_IsFinite Try.f78 (encAs [.cell tF] (x, ())) [] K =
 K (.bool (feq FloatKind.f32 (fsub FloatKind.f32 x x) 0)) [] := by kernel_rfl
noncomputable def s_impl_IsFinite : Sm := semT [.cell tF] fun x => match x with | (x, _) => .bool (finN x)
theorem ok_impl_IsFinite : FnOk Try.prog 78 s_impl_IsFinite := fnOk_typed (fnOk_runC (C := c_impl_IsFinite) rfl mixed .nil .nil .nil Try.func78 (by kernel_rfl)) fun (x : ((Nat) × Unit)) wf K h => by
  obtain ⟨x, ⟨⟩⟩ := x
  replace h : K (.bool (finN x)) [] := h
  rw [w_impl_IsFinite x K]
  exact h

noncomputable def c_impl_finite_1 : Ctx := mkC Try.prog tyT [(78, s_impl_IsFinite)] [] [] 6 (fun _ => none) 0
theorem w_impl_finite_1 (x : Nat) (K : V → Heap → Prop) : wpFn c_impl_finite_1 Try.f157 (encAs [.cell tF] (x, ())) [] K =
 K (.bool (!finN x)) [] := by kernel_rfl
noncomputable def s_impl_finite_1 : Sm := semT [.cell tF] fun x => match x with | (x, _) => .bool (!finN x)
theorem ok_impl_finite_1 : FnOk Try.prog 157 s_impl_finite_1 := fnOk_typed (fnOk_runC (C := c_impl_finite_1) rfl mixed (.cons ok_impl_IsFinite .nil) .nil .nil Try.func157 (by kernel_rfl)) fun (x : ((Nat) × Unit)) wf K h => by
  obtain ⟨x, ⟨⟩⟩ := x
  replace h : K (.bool (!finN x)) [] := h
  rw [w_impl_finite_1 x K]
  exact h

noncomputable def a_slices_IndexFunc__float32_vfin : Nat → Option Ann := fun n => bif Nat.beq n 2 then some ⟨[0,1,7,8],0,false⟩ else none
noncomputable def c_slices_IndexFunc__float32_vfin : Ctx := mkC Try.prog tyT [(157, s_impl_finite_1)] [] [] 19 a_slices_IndexFunc__float32_vfin 0
noncomputable def fr_slices_IndexFunc__float32_vfin_2 (xs : List (Nat)) (n i : Int) : Fr := [(0, .vec (tF) xs), (1, .fn 157 []), (7, .int .i64 n), (8, .int .i64 i)]
theorem r_slices_IndexFunc__float32_vfin_2 (xs : List (Nat)) (n i : Int) (Kn : Fr → Heap → Prop) (K : V → Heap → Prop) : round c_slices_IndexFunc__float32_vfin ⟨[0,1,7,8],0,false⟩ (lb c_slices_IndexFunc__float32_vfin 2 Try.f168) (fr_slices_IndexFunc__float32_vfin_2 xs n i) [] Kn (lk c_slices_IndexFunc__float32_vfin 2 Try.f168 [] K) =
  cond (decide (i < n))
    (cond (decide (0 ≤ i))
      ((match xs[Int.toNat i]? with
        | some y0 => cond (!finN y0)
          (K (.int .i64 (i)) [])
          (Kn [(0, (.vec (.float .f32) (xs))), (1, (.fn 157 [])), (7, (.int .i64 (n))), (8, (.int .i64 (IntKind.wrap IntKind.i64 (i + 1))))] [])
        | none => False))
      (False))
    (K (.int .i64 (-1)) []) := by kernel_rfl
theorem w_slices_IndexFunc__float32_vfin (xs : List (Nat)) (K : V → Heap → Prop) : wpFn c_slices_IndexFunc__float32_vfin Try.f168 (encAs [.cell (.slice (tF)), .fn 157] (xs, (), ())) [] K =
 LoopE c_slices_IndexFunc__float32_vfin ⟨[0, 1, 7, 8], 0, false⟩ (lb c_slices_IndexFunc__float32_vfin 2 Try.f168) [(0, (.vec (.float .f32) (xs))), (1, (.fn 157 [])), (7, (.int .i64 ((↑(List.length xs) : Int)))), (8, (.int .i64 0))] [] (lk c_slices_IndexFunc__float32_vfin 2 Try.f168 [] K) := by kernel_rfl
noncomputable def s_slices_IndexFunc__float32_vfin : Sm := semT [.cell (.slice (tF)), .fn 157] fun x => match x with | (xs, _, _) => .int .i64 (idxF (fun x => !finN x) xs)
theorem ok_slices_IndexFunc__float32_vfin : FnOk Try.prog 168 s_slices_IndexFunc__float32_vfin := fnOk_typed (fnOk_runC (C := c_slices_IndexFunc__float32_vfin) rfl mixed (.cons ok_impl_finite_1 .nil) .nil .nil Try.func168 (by kernel_rfl)) fun (x : ((List (Nat)) × Unit × Unit)) wf K h => by
  obtain ⟨xs, ⟨⟩, ⟨⟩⟩ := x
  replace h : K (.int .i64 (idxF (fun x => !finN x) xs)) [] := h
  rw [w_slices_IndexFunc__float32_vfin xs K]
  obtain ⟨⟨wl, _⟩, _⟩ := wf
  have wl : xs.length ≤ 9223372036854775807 := wl
  refine loop_run (σ := Nat) (fun i => fr_slices_IndexFunc__float32_vfin_2 xs xs.length i) (fun _ => []) (fun i => i ≤ xs.length ∧ (xs.take i).any (fun x => !finN x) = false) (fun i => xs.length - i) ?_ 0 ⟨Nat.zero_le _, rfl⟩
  intro i hi Kn hk
  rw [r_slices_IndexFunc__float32_vfin_2 xs xs.length i Kn K]
  by_cases hlt : i < xs.length
  · simp only [d_lt hlt, d_0, cond_true, Int.toNat_natCast, get_lt hlt]
    cases hp : (fun x => !finN x) (xs[i]'hlt) with
    | true =>
      rw [idxF_hit hlt hi.2 hp] at h
      simp only at hp
      simp only [hp, cond_true]
      exact h
    | false =>
      have hn := any_snoc (f := (fun x => !finN x)) hlt hi.2 hp
      simp only at hp
      simp only [hp, cond_false]
      rw [i64_of (by omega) (by omega)]
      exact hk (i + 1) ⟨hlt, hn⟩ (by omega)
  · simp only [d_nlt hlt, cond_false]
    have : i = xs.length := by omega
    subst this
    have ha := hi.2
    rw [List.take_length] at ha
    rw [idxF_none ha] at h
    exact h

noncomputable def c_slices_ContainsFunc__float32_vfin : Ctx := mkC Try.prog tyT [(168, s_slices_IndexFunc__float32_vfin)] [] [] 9 (fun _ => none) 0
theorem w_slices_ContainsFunc__float32_vfin (xs : List (Nat)) (K : V → Heap → Prop) : wpFn c_slices_ContainsFunc__float32_vfin Try.f142 (encAs [.cell (.slice (tF)), .fn 157] (xs, (), ())) [] K =
 K (.bool (decide (idxF (fun x => !finN x) xs ≥ 0))) [] := by kernel_rfl
noncomputable def s_slices_ContainsFunc__float32_vfin : Sm := semT [.cell (.slice (tF)), .fn 157] fun x => match x with | (xs, _, _) => .bool (xs.any (fun x => !finN x))
theorem ok_slices_ContainsFunc__float32_vfin : FnOk Try.prog 142 s_slices_ContainsFunc__float32_vfin := fnOk_typed (fnOk_runC (C := c_slices_ContainsFunc__float32_vfin) rfl mixed (.cons ok_slices_IndexFunc__float32_vfin .nil) .nil .nil Try.func142 (by kernel_rfl)) fun (x : ((List (Nat)) × Unit × Unit)) wf K h => by
  obtain ⟨xs, ⟨⟩, ⟨⟩⟩ := x
  replace h : K (.bool (xs.any (fun x => !finN x))) [] := h
  rw [w_slices_ContainsFunc__float32_vfin xs K]
  rw [idxF_ge]
  exact h


noncomputable def c_impl_finite : Ctx := mkC Try.prog tyT [(142, s_slices_ContainsFunc__float32_vfin)] [] [] 6 (fun _ => none) 0
theorem w_impl_finite (xs : List Nat) (K : V → Heap → Prop) : wpFn c_impl_finite Try.f131 (encAs [.cell (.slice tF)] (xs, ())) [] K =
 K (.bool (!List.any xs fun x => !finN x)) [] := by kernel_rfl
noncomputable def s_impl_finite : Sm := semT [.cell (.slice tF)] fun x => match x with | (xs, _) => .bool (!xs.any (fun x => !finN x))
theorem ok_impl_finite : FnOk Try.prog 131 s_impl_finite := fnOk_typed (fnOk_runC (C := c_impl_finite) rfl mixed (.cons ok_slices_ContainsFunc__float32_vfin .nil) .nil .nil Try.func131 (by kernel_rfl)) fun (x : ((List Nat) × Unit)) wf K h => by
  obtain ⟨xs, ⟨⟩⟩ := x
  replace h : K (.bool (!xs.any (fun x => !finN x))) [] := h
  rw [w_impl_finite xs K]
  exact h

noncomputable def c_impl_numbersOk_1 : Ctx := mkC Try.prog tyT [] [] [] 20 (fun _ => none) 0
theorem w_impl_numbersOk_1 (x : Nat) (a b : Int) (c : Bool) (d : Int) (K : V → Heap → Prop) : wpFn c_impl_numbersOk_1 Try.f143 (encAs [.cell tF, .ref tR] (x, (a, b, c, d), ())) [] K =
 cond (d == 1)
 (cond (flt FloatKind.f32 x 0)
 (K (.bool true) [])
 (cond (d == 2)
 (K (.bool (fle FloatKind.f32 x 0)) [])
 (K (.bool false) [])))
 (cond (d == 2)
 (K (.bool (fle FloatKind.f32 x 0)) [])
 (K (.bool false) [])) := by kernel_rfl
noncomputable def s_impl_numbersOk_1 : Sm := semT [.cell tF, .ref tR] fun x => match x with | (x, (a, b, c, d), _) => .bool (sgnB d x)
theorem ok_impl_numbersOk_1 : FnOk Try.prog 143 s_impl_numbersOk_1 := fnOk_typed (fnOk_runC (C := c_impl_numbersOk_1) rfl mixed .nil .nil .nil Try.func143 (by kernel_rfl)) fun (x : ((Nat) × ((Int) × (Int) × (Bool) × (Int)) × Unit)) wf K h => by
  obtain ⟨x, ⟨a, b, c, d⟩, ⟨⟩⟩ := x
  replace h : K (.bool (sgnB d x)) [] := h
  rw [w_impl_numbersOk_1 x a b c d K]
  revert h
  unfold sgnB
  cases d == 1 <;> cases d == 2 <;> cases flt FloatKind.f32 x 0 <;> exact id

noncomputable def a_slices_IndexFunc__float32_vsgn : Nat → Option Ann := fun n => bif Nat.beq n 2 then some ⟨[0,1,7,8],0,false⟩ else none
noncomputable def c_slices_IndexFunc__float32_vsgn : Ctx := mkC Try.prog tyT [(143, s_impl_numbersOk_1)] [] [] 19 a_slices_IndexFunc__float32_vsgn 0
noncomputable def fr_slices_IndexFunc__float32_vsgn_2 (xs : List (Nat)) (a b : Int) (c : Bool) (d : Int) (n i : Int) : Fr := [(0, .vec (tF) xs), (1, .fn 143 [.ref [.int .i64 a, .int .i64 b, .bool c, .int .i64 d] 0]), (7, .int .i64 n), (8, .int .i64 i)]
theorem r_slices_IndexFunc__float32_vsgn_2 (xs : List (Nat)) (a b : Int) (c : Bool) (d : Int) (n i : Int) (Kn : Fr → Heap → Prop) (K : V → Heap → Prop) : round c_slices_IndexFunc__float32_vsgn ⟨[0,1,7,8],0,false⟩ (lb c_slices_IndexFunc__float32_vsgn 2 Try.f168) (fr_slices_IndexFunc__float32_vsgn_2 xs a b c d n i) [] Kn (lk c_slices_IndexFunc__float32_vsgn 2 Try.f168 [] K) =
  cond (decide (i < n))
    (cond (decide (0 ≤ i))
      ((match xs[Int.toNat i]? with
        | some y0 => cond (sgnB d y0)
          (K (.int .i64 (i)) [])
          (Kn [(0, (.vec (.float .f32) (xs))), (1, (.fn 143 [(.ref [(.int .i64 (a)), (.int .i64 (b)), (.bool (c)), (.int .i64 (d))] 0)])), (7, (.int .i64 (n))), (8, (.int .i64 (IntKind.wrap IntKind.i64 (i + 1))))] [])
        | none => False))
      (False))
    (K (.int .i64 (-1)) []) := by kernel_rfl
theorem w_slices_IndexFunc__float32_vsgn (xs : List (Nat)) (a b : Int) (c : Bool) (d : Int) (K : V → Heap → Prop) : wpFn c_slices_IndexFunc__float32_vsgn Try.f168 (encAs [.cell (.slice (tF)), .clo 143 tR] (xs, (a, b, c, d), ())) [] K =
 LoopE c_slices_IndexFunc__float32_vsgn ⟨[0, 1, 7, 8], 0, false⟩ (lb c_slices_IndexFunc__float32_vsgn 2 Try.f168) [(0, (.vec (.float .f32) (xs))), (1, (.fn 143 [(.ref [(.int .i64 (a)), (.int .i64 (b)), (.bool (c)), (.int .i64 (d))] 0)])), (7, (.int .i64 ((↑(List.length xs) : Int)))), (8, (.int .i64 0))] [] (lk c_slices_IndexFunc__float32_vsgn 2 Try.f168 [] K) := by kernel_rfl
noncomputable def s_slices_IndexFunc__float32_vsgn : Sm := semT [.cell (.slice (tF)), .clo 143 tR] fun x => match x with | (xs, (a, b, c, d), _) => .int .i64 (idxF (fun x => sgnB d x) xs)
theorem ok_slices_IndexFunc__float32_vsgn : FnOk Try.prog 168 s_slices_IndexFunc__float32_vsgn := fnOk_typed (fnOk_runC (C := c_slices_IndexFunc__float32_vsgn) rfl mixed (.cons ok_impl_numbersOk_1 .nil) .nil .nil Try.func168 (by kernel_rfl)) fun (x : ((List (Nat)) × ((Int) × (Int) × (Bool) × (Int)) × Unit)) wf K h => by
  obtain ⟨xs, ⟨a, b, c, d⟩, ⟨⟩⟩ := x
  replace h : K (.int .i64 (idxF (fun x => sgnB d x) xs)) [] := h
  rw [w_slices_IndexFunc__float32_vsgn xs a b c d K]
  obtain ⟨⟨wl, _⟩, _⟩ := wf
  have wl : xs.length ≤ 9223372036854775807 := wl
  refine loop_run (σ := Nat) (fun i => fr_slices_IndexFunc__float32_vsgn_2 xs a b c d xs.length i) (fun _ => []) (fun i => i ≤ xs.length ∧ (xs.take i).any (fun x => sgnB d x) = false) (fun i => xs.length - i) ?_ 0 ⟨Nat.zero_le _, rfl⟩
  intro i hi Kn hk
  rw [r_slices_IndexFunc__float32_vsgn_2 xs a b c d xs.length i Kn K]
  by_cases hlt : i < xs.length
  · simp only [d_lt hlt, d_0, cond_true, Int.toNat_natCast, get_lt hlt]
    cases hp : (fun x => sgnB d x) (xs[i]'hlt) with
    | true =>
      rw [idxF_hit hlt hi.2 hp] at h
      simp only at hp
      simp only [hp, cond_true]
      exact h
    | false =>
      have hn := any_snoc (f := (fun x => sgnB d x)) hlt hi.2 hp
      simp only at hp
      simp only [hp, cond_false]
      rw [i64_of (by omega) (by omega)]
      exact hk (i + 1) ⟨hlt, hn⟩ (by omega)
  · simp only [d_nlt hlt, cond_false]
    have : i = xs.length := by omega
    subst this
    have ha := hi.2
    rw [List.take_length] at ha
    rw [idxF_none ha] at h
    exact h

noncomputable def c_slices_ContainsFunc__float32_vsgn : Ctx := mkC Try.prog tyT [(168, s_slices_IndexFunc__float32_vsgn)] [] [] 9 (fun _ => none) 0
theorem w_slices_ContainsFunc__float32_vsgn (xs : List (Nat)) (a b : Int) (c : Bool) (d : Int) (K : V → Heap → Prop) : wpFn c_slices_ContainsFunc__float32_vsgn Try.f142 (encAs [.cell (.slice (tF)), .clo 143 tR] (xs, (a, b, c, d), ())) [] K =
 K (.bool (decide (idxF (fun x => sgnB d x) xs ≥ 0))) [] := by kernel_rfl
noncomputable def s_slices_ContainsFunc__float32_vsgn : Sm := semT [.cell (.slice (tF)), .clo 143 tR] fun x => match x with | (xs, (a, b, c, d), _) => .bool (xs.any (fun x => sgnB d x))
theorem ok_slices_ContainsFunc__float32_vsgn : FnOk Try.prog 142 s_slices_ContainsFunc__float32_vsgn := fnOk_typed (fnOk_runC (C := c_slices_ContainsFunc__float32_vsgn) rfl mixed (.cons ok_slices_IndexFunc__float32_vsgn .nil) .nil .nil Try.func142 (by kernel_rfl)) fun (x : ((List (Nat)) × ((Int) × (Int) × (Bool) × (Int)) × Unit)) wf K h => by
  obtain ⟨xs, ⟨a, b, c, d⟩, ⟨⟩⟩ := x
  replace h : K (.bool (xs.any (fun x => sgnB d x))) [] := h
  rw [w_slices_ContainsFunc__float32_vsgn xs a b c d K]
  rw [idxF_ge]
  exact h


noncomputable def c_impl_numbersOk : Ctx := mkC Try.prog tyT [(98, s_impl_ruleOf), (131, s_impl_finite), (142, s_slices_ContainsFunc__float32_vsgn)] [] [] 30 (fun _ => none) 0
theorem w_impl_numbersOk (k : Int) (xs : List Nat) (K : V → Heap → Prop) : wpFn c_impl_numbersOk Try.f92 (encAs [.cell tI, .cell (.slice tF)] (k, xs, ())) [] K =
 cond (!isK k)
 (K (.bool false) [])
 (cond ((↑(List.length xs) : Int) != kindN k)
 (K (.bool false) [])
 (cond (!!List.any xs fun x => !finN x)
 (K (.bool false) [])
 (K (.bool (!List.any xs fun x => sgnB (kindS k) x)) []))) := by kernel_rfl
noncomputable def s_impl_numbersOk : Sm := semT [.cell tI, .cell (.slice tF)] fun x => match x with | (k, xs, _) => .bool (numsB k xs)
theorem ok_impl_numbersOk : FnOk Try.prog 92 s_impl_numbersOk := fnOk_typed (fnOk_runC (C := c_impl_numbersOk) rfl mixed (.cons ok_impl_ruleOf (.cons ok_impl_finite (.cons ok_slices_ContainsFunc__float32_vsgn .nil))) .nil .nil Try.func92 (by kernel_rfl)) fun (x : ((Int) × (List Nat) × Unit)) wf K h => by
  obtain ⟨k, xs, ⟨⟩⟩ := x
  replace h : K (.bool (numsB k xs)) [] := h
  rw [w_impl_numbersOk k xs K]
  revert h
  unfold numsB
  simp only [bne]
  cases isK k <;> cases ((xs.length : Int) == kindN k) <;> cases (xs.any fun x => !finN x) <;> exact id

noncomputable def c_impl_axisOk : Ctx := mkC Try.prog tyT [(98, s_impl_ruleOf), (79, s_impl_in)] [] [] 46 (fun _ => none) 0
theorem w_impl_axisOk (k a b : Int) (xs : List Nat) (K : V → Heap → Prop) : wpFn c_impl_axisOk Try.f93 (encAs [.ref tN] ((k, a, b, xs), ())) [] K =
 cond (decide (kindC k > 0))
 (cond (kindC k == 2)
 (K (.bool true) [])
 (cond (b == 0)
 (K (.bool true) [])
 (cond (kindA k)
 (K (.bool (inR b 0 2)) [])
 (K (.bool false) []))))
 (cond (a == 0)
 (cond (kindC k == 2)
 (K (.bool true) [])
 (cond (b == 0)
 (K (.bool true) [])
 (cond (kindA k)
 (K (.bool (inR b 0 2)) [])
 (K (.bool false) []))))
 (K (.bool false) [])) := by kernel_rfl
noncomputable def s_impl_axisOk : Sm := semT [.ref tN] fun x => match x with | ((k, a, b, xs), _) => .bool (axB k a b)
theorem ok_impl_axisOk : FnOk Try.prog 93 s_impl_axisOk := fnOk_typed (fnOk_runC (C := c_impl_axisOk) rfl mixed (.cons ok_impl_ruleOf (.cons ok_impl_in .nil)) .nil .nil Try.func93 (by kernel_rfl)) fun (x : (((Int) × (Int) × (Int) × (List Nat)) × Unit)) wf K h => by
  obtain ⟨⟨k, a, b, xs⟩, ⟨⟩⟩ := x
  replace h : K (.bool (axB k a b)) [] := h
  rw [w_impl_axisOk k a b xs K]
  revert h
  unfold axB
  cases decide (kindC k > 0) <;> cases a == 0 <;> cases kindC k == 2 <;> cases b == 0 <;> cases kindA k <;> exact id

noncomputable def c_impl_childrenOf : Ctx := mkC Try.prog tyT [(98, s_impl_ruleOf)] [] [] 25 (fun _ => none) 0 true
theorem w_impl_childrenOf (k a b : Int) (xs : List Nat) (K : V → Heap → Prop) : wpFn c_impl_childrenOf Try.f83 (encAs [.ref tN] ((k, a, b, xs), ())) [] K =
 cond (decide (0 ≤ 0) && (decide (0 ≤ kindC k) && decide (kindC k ≤ (↑2 : Int))))
 (K (.vec (.int .i64) (List.drop 0 (List.take (Int.toNat (kindC k)) [a, b]))) [])
 (False) := by kernel_rfl
noncomputable def s_impl_childrenOf : Sm := semT [.ref tN] fun x => match x with | ((k, a, b, xs), _) => .vec tI (kids k a b)
theorem ok_impl_childrenOf : FnOk Try.prog 83 s_impl_childrenOf := fnOk_typed (fnOk_runC (C := c_impl_childrenOf) rfl mixed (.cons ok_impl_ruleOf .nil) .nil .nil Try.func83 (by kernel_rfl)) fun (x : (((Int) × (Int) × (Int) × (List Nat)) × Unit)) wf K h => by
  obtain ⟨⟨k, a, b, xs⟩, ⟨⟩⟩ := x
  replace h : K (.vec tI (kids k a b)) [] := h
  rw [w_impl_childrenOf k a b xs K]
  have hc := kindC_range k
  have h3 : kindC k ≤ 2 := hc.2
  simp only [hc.1, h3, Int.le_refl, decide_true, Bool.and_self, cond_true]
  exact h

noncomputable def c_impl_ValidShape_1 : Ctx := mkC Try.prog tyT [] [] [] 5 (fun _ => none) 0
theorem w_impl_ValidShape_1 (n : Int) (K : V → Heap → Prop) : wpFn c_impl_ValidShape_1 Try.f95 (encAs [.cell tI] (n, ())) [] K =
 K (.bool (n != 1)) [] := by kernel_rfl
noncomputable def s_impl_ValidShape_1 : Sm := semT [.cell tI] fun x => match x with | (n, _) => .bool (n != 1)
theorem ok_impl_ValidShape_1 : FnOk Try.prog 95 s_impl_ValidShape_1 := fnOk_typed (fnOk_runC (C := c_impl_ValidShape_1) rfl mixed .nil .nil .nil Try.func95 (by kernel_rfl)) fun (x : ((Int) × Unit)) wf K h => by
  obtain ⟨n, ⟨⟩⟩ := x
  replace h : K (.bool (n != 1)) [] := h
  rw [w_impl_ValidShape_1 n K]
  exact h

noncomputable def a_slices_IndexFunc__int_vone : Nat → Option Ann := fun n => bif Nat.beq n 2 then some ⟨[0,1,7,8],0,false⟩ else none
noncomputable def c_slices_IndexFunc__int_vone : Ctx := mkC Try.prog tyT [(95, s_impl_ValidShape_1)] [] [] 19 a_slices_IndexFunc__int_vone 0
noncomputable def fr_slices_IndexFunc__int_vone_2 (xs : List (Int)) (n i : Int) : Fr := [(0, .vec (tI) xs), (1, .fn 95 []), (7, .int .i64 n), (8, .int .i64 i)]
theorem r_slices_IndexFunc__int_vone_2 (xs : List (Int)) (n i : Int) (Kn : Fr → Heap → Prop) (K : V → Heap → Prop) : round c_slices_IndexFunc__int_vone ⟨[0,1,7,8],0,false⟩ (lb c_slices_IndexFunc__int_vone 2 Try.f144) (fr_slices_IndexFunc__int_vone_2 xs n i) [] Kn (lk c_slices_IndexFunc__int_vone 2 Try.f144 [] K) =
  cond (decide (i < n))
    (cond (decide (0 ≤ i))
      ((match xs[Int.toNat i]? with
        | some y0 => cond (y0 != 1)
          (K (.int .i64 (i)) [])
          (Kn [(0, (.vec (.int .i64) (xs))), (1, (.fn 95 [])), (7, (.int .i64 (n))), (8, (.int .i64 (IntKind.wrap IntKind.i64 (i + 1))))] [])
        | none => False))
      (False))
    (K (.int .i64 (-1)) []) := by kernel_rfl
theorem w_slices_IndexFunc__int_vone (xs : List (Int)) (K : V → Heap → Prop) : wpFn c_slices_IndexFunc__int_vone Try.f144 (encAs [.cell (.slice (tI)), .fn 95] (xs, (), ())) [] K =
 LoopE c_slices_IndexFunc__int_vone ⟨[0, 1, 7, 8], 0, false⟩ (lb c_slices_IndexFunc__int_vone 2 Try.f144) [(0, (.vec (.int .i64) (xs))), (1, (.fn 95 [])), (7, (.int .i64 ((↑(List.length xs) : Int)))), (8, (.int .i64 0))] [] (lk c_slices_IndexFunc__int_vone 2 Try.f144 [] K) := by kernel_rfl
noncomputable def s_slices_IndexFunc__int_vone : Sm := semT [.cell (.slice (tI)), .fn 95] fun x => match x with | (xs, _, _) => .int .i64 (idxF (fun x => x != 1) xs)
theorem ok_slices_IndexFunc__int_vone : FnOk Try.prog 144 s_slices_IndexFunc__int_vone := fnOk_typed (fnOk_runC (C := c_slices_IndexFunc__int_vone) rfl mixed (.cons ok_impl_ValidShape_1 .nil) .nil .nil Try.func144 (by kernel_rfl)) fun (x : ((List (Int)) × Unit × Unit)) wf K h => by
  obtain ⟨xs, ⟨⟩, ⟨⟩⟩ := x
  replace h : K (.int .i64 (idxF (fun x => x != 1) xs)) [] := h
  rw [w_slices_IndexFunc__int_vone xs K]
  obtain ⟨⟨wl, _⟩, _⟩ := wf
  have wl : xs.length ≤ 9223372036854775807 := wl
  refine loop_run (σ := Nat) (fun i => fr_slices_IndexFunc__int_vone_2 xs xs.length i) (fun _ => []) (fun i => i ≤ xs.length ∧ (xs.take i).any (fun x => x != 1) = false) (fun i => xs.length - i) ?_ 0 ⟨Nat.zero_le _, rfl⟩
  intro i hi Kn hk
  rw [r_slices_IndexFunc__int_vone_2 xs xs.length i Kn K]
  by_cases hlt : i < xs.length
  · simp only [d_lt hlt, d_0, cond_true, Int.toNat_natCast, get_lt hlt]
    cases hp : (fun x => x != 1) (xs[i]'hlt) with
    | true =>
      rw [idxF_hit hlt hi.2 hp] at h
      simp only at hp
      simp only [hp, cond_true]
      exact h
    | false =>
      have hn := any_snoc (f := (fun x => x != 1)) hlt hi.2 hp
      simp only at hp
      simp only [hp, cond_false]
      rw [i64_of (by omega) (by omega)]
      exact hk (i + 1) ⟨hlt, hn⟩ (by omega)
  · simp only [d_nlt hlt, cond_false]
    have : i = xs.length := by omega
    subst this
    have ha := hi.2
    rw [List.take_length] at ha
    rw [idxF_none ha] at h
    exact h

noncomputable def c_slices_ContainsFunc__int_vone : Ctx := mkC Try.prog tyT [(144, s_slices_IndexFunc__int_vone)] [] [] 9 (fun _ => none) 0
theorem w_slices_ContainsFunc__int_vone (xs : List (Int)) (K : V → Heap → Prop) : wpFn c_slices_ContainsFunc__int_vone Try.f94 (encAs [.cell (.slice (tI)), .fn 95] (xs, (), ())) [] K =
 K (.bool (decide (idxF (fun x => x != 1) xs ≥ 0))) [] := by kernel_rfl
noncomputable def s_slices_ContainsFunc__int_vone : Sm := semT [.cell (.slice (tI)), .fn 95] fun x => match x with | (xs, _, _) => .bool (xs.any (fun x => x != 1))
theorem ok_slices_ContainsFunc__int_vone : FnOk Try.prog 94 s_slices_ContainsFunc__int_vone := fnOk_typed (fnOk_runC (C := c_slices_ContainsFunc__int_vone) rfl mixed (.cons ok_slices_IndexFunc__int_vone .nil) .nil .nil Try.func94 (by kernel_rfl)) fun (x : ((List (Int)) × Unit × Unit)) wf K h => by
  obtain ⟨xs, ⟨⟩, ⟨⟩⟩ := x
  replace h : K (.bool (xs.any (fun x => x != 1))) [] := h
  rw [w_slices_ContainsFunc__int_vone xs K]
  rw [idxF_ge]
  exact h


noncomputable def a_impl_ValidShape : Nat → Option Ann := fun n => bif Nat.beq n 5 then some ⟨[1,3,20,21],2,false⟩ else bif Nat.beq n 11 then some ⟨[1,3,4,20,21,44,45,46],2,false⟩ else none
noncomputable def c_impl_ValidShape : Ctx := mkC Try.prog tyT [(79, s_impl_in), (92, s_impl_numbersOk), (93, s_impl_axisOk), (83, s_impl_childrenOf), (94, s_slices_ContainsFunc__int_vone)] [] [] 78 a_impl_ValidShape 0
noncomputable def fr_impl_ValidShape_5 (ns : List NodeD) (us : List Int) (n i : Int) : Fr := [(1, .ptr 0 0), (3, .obj 1 0), (20, .int .i64 n), (21, .int .i64 i)]
noncomputable def hp_impl_ValidShape_5 (ns : List NodeD) (us : List Int) (n i : Int) : Heap := [.box [.vec tN ns], .sl 0 tI us]
theorem r_impl_ValidShape_5 (ns : List NodeD) (us : List Int) (n i : Int) (Kn : Fr → Heap → Prop) (K : V → Heap → Prop) : round c_impl_ValidShape ⟨[1,3,20,21],2,false⟩ (lb c_impl_ValidShape 5 Try.f33) (fr_impl_ValidShape_5 ns us n i) (hp_impl_ValidShape_5 ns us n i) Kn (lk c_impl_ValidShape 5 Try.f33 [] K) =
  cond (decide (i < n))
    (cond (decide (0 ≤ i))
      ((match ns[Int.toNat i]? with
        | some y0 => cond (!numsB (Prod.fst y0) (Prod.snd (Prod.snd (Prod.snd y0))))
          (K (.bool false) [])
          (cond (!axB (Prod.fst y0) (Prod.fst (Prod.snd y0)) (Prod.fst (Prod.snd (Prod.snd y0))))
            (K (.bool false) [])
            (LoopE c_impl_ValidShape ⟨[1, 3, 4, 20, 21, 44, 45, 46], 2, false⟩ (pathB c_impl_ValidShape [5, 11] (bodyOf Try.f33)) [(1, (.ptr 0 0)), (3, (.obj 1 0)), (4, (.int .i64 (i))), (20, (.int .i64 (n))), (21, (.int .i64 (i))), (44, (.vec (.int .i64) (kids (Prod.fst y0) (Prod.fst (Prod.snd y0)) (Prod.fst (Prod.snd (Prod.snd y0)))))), (45, (.int .i64 ((↑(List.length (kids (Prod.fst y0) (Prod.fst (Prod.snd y0)) (Prod.fst (Prod.snd (Prod.snd y0))))) : Int)))), (46, (.int .i64 0))] [(.box [(.vec tN (ns))]), (.sl 0 (.int .i64) (us))] (pathK c_impl_ValidShape [(5, ⟨[1,3,20,21],2,false⟩, Kn)] 11 (bodyOf Try.f33) (kFn c_impl_ValidShape Try.f33 [] K))))
        | none => False))
      (False))
    (cond (decide (0 ≤ IntKind.wrap IntKind.i64 ((↑(List.length us) : Int) - 1)) && Nat.blt (Int.toNat (IntKind.wrap IntKind.i64 ((↑(List.length us) : Int) - 1))) (List.length us))
      ((match us[Int.toNat (IntKind.wrap IntKind.i64 ((↑(List.length us) : Int) - 1))]? with
        | some x1 => cond (x1 == 0)
          (cond (decide (0 ≤ 0) && (decide (0 ≤ IntKind.wrap IntKind.i64 ((↑(List.length us) : Int) - 1)) && decide (IntKind.wrap IntKind.i64 ((↑(List.length us) : Int) - 1) ≤ (↑(List.length us) : Int))))
            (K (.bool (!List.any (List.drop 0 (List.take (Int.toNat (IntKind.wrap IntKind.i64 ((↑(List.length us) : Int) - 1))) us)) fun x => x != 1)) [])
            (False))
          (K (.bool false) [])
        | none => False))
      (False)) := by kernel_rfl
noncomputable def fr_impl_ValidShape_11 (ns : List NodeD) (us : List Int) (n i p : Int) (cs : List Int) (m j : Int) : Fr := [(1, .ptr 0 0), (3, .obj 1 0), (4, .int .i64 p), (20, .int .i64 n), (21, .int .i64 i), (44, .vec tI cs), (45, .int .i64 m), (46, .int .i64 j)]
noncomputable def hp_impl_ValidShape_11 (ns : List NodeD) (us : List Int) (n i p : Int) (cs : List Int) (m j : Int) : Heap := [.box [.vec tN ns], .sl 0 tI us]
theorem r_impl_ValidShape_11 (ns : List NodeD) (us : List Int) (n i p : Int) (cs : List Int) (m j : Int) (Kn5 : Fr → Heap → Prop) (Kn : Fr → Heap → Prop) (K : V → Heap → Prop) : round c_impl_ValidShape ⟨[1,3,4,20,21,44,45,46],2,false⟩ (pathB c_impl_ValidShape [5, 11] (bodyOf Try.f33)) (fr_impl_ValidShape_11 ns us n i p cs m j) (hp_impl_ValidShape_11 ns us n i p cs m j) Kn (pathK c_impl_ValidShape [(5, ⟨[1,3,20,21],2,false⟩, Kn5)] 11 (bodyOf Try.f33) (kFn c_impl_ValidShape Try.f33 [] K)) =
  cond (decide (j < m))
    (cond (decide (0 ≤ j))
      ((match cs[Int.toNat j]? with
        | some y0 => cond (!inR y0 0 (IntKind.wrap IntKind.i64 (p - 1)))
          (K (.bool false) [])
          (cond (decide (0 ≤ y0) && Nat.blt (Int.toNat y0) (List.length us))
            ((match us[Int.toNat y0]? with
              | some x1 => cond (decide (0 ≤ y0) && Nat.blt (Int.toNat y0) (List.length us))
                ((match us[Int.toNat y0]? with
                  | some x2 => Kn [(1, (.ptr 0 0)), (3, (.obj 1 0)), (4, (.int .i64 (p))), (20, (.int .i64 (n))), (21, (.int .i64 (i))), (44, (.vec (.int .i64) (cs))), (45, (.int .i64 (m))), (46, (.int .i64 (IntKind.wrap IntKind.i64 (j + 1))))] [(.box [(.vec tN (ns))]), (.sl 0 (.int .i64) (List.set us (Int.toNat y0) (IntKind.wrap IntKind.i64 (x1 + 1))))]
                  | none => False))
                (False)
              | none => False))
            (False))
        | none => False))
      (False))
    (Kn5 [(1, (.ptr 0 0)), (3, (.obj 1 0)), (20, (.int .i64 (n))), (21, (.int .i64 (IntKind.wrap IntKind.i64 (i + 1))))] [(.box [(.vec tN (ns))]), (.sl 0 (.int .i64) (us))]) := by kernel_rfl
theorem w_impl_ValidShape (ns : List NodeD) (K : V → Heap → Prop) : wpFn c_impl_ValidShape Try.f33 (encAs [.agg (.slice tN)] (ns, ())) [] K =
 cond (!inR (↑(List.length ns) : Int) 1 16)
 (K (.bool false) [])
 (cond (decide (0 ≤ (↑(List.length ns) : Int)) && (decide ((↑(List.length ns) : Int) ≤ (↑(List.length ns) : Int)) && decide ((↑8 : Int) * (↑(List.length ns) : Int) ≤ 281474976710656)))
 (LoopE c_impl_ValidShape ⟨[1, 3, 20, 21], 2, false⟩ (lb c_impl_ValidShape 5 Try.f33) [(1, (.ptr 0 0)), (3, (.obj 1 0)), (20, (.int .i64 ((↑(List.length ns) : Int)))), (21, (.int .i64 0))] [(.box [(.vec tN (ns))]), (.sl 0 (.int .i64) (List.replicate (Int.toNat (↑(List.length ns) : Int)) 0))] (lk c_impl_ValidShape 5 Try.f33 [] K))
 (False)) := by kernel_rfl
noncomputable def s_impl_ValidShape : Sm := semT [.agg (.slice tN)] fun x => match x with | (ns, _) => .bool (validS ns)
theorem ok_impl_ValidShape : FnOk Try.prog 33 s_impl_ValidShape := fnOk_typed (fnOk_runC (C := c_impl_ValidShape) rfl mixed (.cons ok_impl_in (.cons ok_impl_numbersOk (.cons ok_impl_axisOk (.cons ok_impl_childrenOf (.cons ok_slices_ContainsFunc__int_vone .nil))))) .nil .nil Try.func33 (by kernel_rfl)) fun (x : ((List NodeD) × Unit)) wf K h => by
  obtain ⟨ns, ⟨⟩⟩ := x
  replace h : K (.bool (validS ns)) [] := h
  rw [w_impl_ValidShape ns K]
  cases hin : inR (ns.length : Int) 1 16 with
  | false =>
    have : validS ns = false := by unfold validS; rw [hin]; rfl
    rw [this] at h
    exact h
  | true =>
    have hr := inR_iff.1 hin
    simp only [Bool.not_true, cond_false, Int.toNat_natCast]
    have e8 : 8 * (ns.length : Int) ≤ 281474976710656 := by omega
    simp only [d_0, Int.le_refl, decide_true, e8, Bool.and_self, cond_true]
    refine loop_run (σ := Nat) (fun i => fr_impl_ValidShape_5 ns [] ns.length i) (fun i => hp_impl_ValidShape_5 ns (usesAt ns i) ns.length i) (fun i => i ≤ ns.length ∧ OkUp ns i) (fun i => ns.length - i) ?_ 0 ⟨Nat.zero_le _, fun j n hj => by omega⟩
    intro i hi Kn5 hk5
    obtain ⟨u1, u2, u3⟩ := uses_facts i hi.1 hi.2
    rw [show fr_impl_ValidShape_5 ns [] ns.length i = fr_impl_ValidShape_5 ns (usesAt ns i) ns.length i from rfl, r_impl_ValidShape_5 ns (usesAt ns i) ns.length i Kn5 K]
    by_cases hlt : i < ns.length
    · simp only [d_lt hlt, d_0, cond_true, Int.toNat_natCast, get_lt hlt]
      generalize hy : ns[i]'hlt = y
      obtain ⟨k, a, b, xs⟩ := y
      have no : nodeB i (k, a, b, xs) = false → K (.bool false) [] := fun e => by
        rw [valid_no hlt (by rw [hy]; exact e)] at h
        exact h
      cases e1 : numsB k xs with
      | false => exact no (by unfold nodeB; simp only [e1, Bool.false_and])
      | true =>
        simp only [Bool.not_true, cond_false]
        cases e2 : axB k a b with
        | false => exact no (by unfold nodeB; simp only [e1, e2, Bool.false_and, Bool.and_false])
        | true =>
          simp only [Bool.not_true, cond_false]
          refine loop_run (σ := Nat) (fun j => fr_impl_ValidShape_11 ns [] ns.length i i (kids k a b) (kids k a b).length j) (fun j => hp_impl_ValidShape_11 ns (incs (usesAt ns i) ((kids k a b).take j)) 0 0 0 [] 0 0) (fun j => j ≤ (kids k a b).length ∧ ∀ c ∈ (kids k a b).take j, 0 ≤ c ∧ c < (i : Int)) (fun j => (kids k a b).length - j) ?_ 0 ⟨Nat.zero_le _, by simp⟩
          intro j hj Kn hk
          have hk2 : (kids k a b).length ≤ 2 := kids_len (k, a, b, xs)
          obtain ⟨v1, v2, v3⟩ := incs_facts (i := i) ((kids k a b).take j) (u := usesAt ns i) (B := 2 * (i : Int)) (fun c hc => hj.2 c hc) u2 (by omega)
          rw [show fr_impl_ValidShape_11 ns [] ns.length i i (kids k a b) (kids k a b).length j = fr_impl_ValidShape_11 ns (incs (usesAt ns i) ((kids k a b).take j)) ns.length i i (kids k a b) (kids k a b).length j from rfl,
            show hp_impl_ValidShape_11 ns (incs (usesAt ns i) ((kids k a b).take j)) 0 0 0 [] 0 0 = hp_impl_ValidShape_11 ns (incs (usesAt ns i) ((kids k a b).take j)) ns.length i i (kids k a b) (kids k a b).length j from rfl,
            r_impl_ValidShape_11 ns (incs (usesAt ns i) ((kids k a b).take j)) ns.length i i (kids k a b) (kids k a b).length j Kn5 Kn K]
          by_cases hjl : j < (kids k a b).length
          · simp only [d_lt hjl, d_0, cond_true, Int.toNat_natCast, get_lt hjl]
            rw [i64_of (n := (i : Int) - 1) (by omega) (by omega)]
            generalize hc : (kids k a b)[j]'hjl = c
            cases e3 : inR c 0 ((i : Int) - 1) with
            | false =>
              refine no ?_
              have : (kidsN (k, a, b, xs)).all (fun c => inR c 0 ((i : Int) - 1)) = false := List.all_eq_false.2 ⟨c, by rw [← hc]; exact List.getElem_mem hjl, by rw [e3]; simp⟩
              unfold nodeB
              rw [this, Bool.and_false, Bool.and_false]
            | true =>
              have hcr := inR_iff.1 e3
              have hcl : c.toNat < (incs (usesAt ns i) ((kids k a b).take j)).length := by rw [v1, u1]; omega
              simp only [Bool.not_true, cond_false, d_t hcr.1, blt_t hcl, Bool.and_self, cond_true, get_lt hcl]
              have hx := v2 _ (List.getElem_mem hcl)
              have hjt : ((kids k a b).take j).length ≤ 2 := by rw [List.length_take]; omega
              rw [i64_of (n := (incs (usesAt ns i) ((kids k a b).take j))[c.toNat]'hcl + 1) (by omega) (by omega), i64_of (by omega) (by omega)]
              have := hk (j + 1) ⟨hjl, fun c' hc' => by
                rw [take_one hjl, List.mem_append] at hc'
                rcases hc' with hc' | hc'
                · exact hj.2 c' hc'
                · rw [List.mem_singleton, hc] at hc'; omega⟩ (by omega)
              rw [show hp_impl_ValidShape_11 ns (incs (usesAt ns i) ((kids k a b).take (j + 1))) 0 0 0 [] 0 0 = [.box [.vec tN ns], .sl 0 tI ((incs (usesAt ns i) ((kids k a b).take j)).set c.toNat ((incs (usesAt ns i) ((kids k a b).take j))[c.toNat]'hcl + 1))] by
                rw [incs_take _ hjl, hc]
                unfold inc1
                rw [get_lt hcl]
                rfl] at this
              exact this
          · simp only [d_nlt hjl, cond_false]
            rw [i64_of (by omega) (by omega)]
            have hall : (kids k a b).take j = kids k a b := List.take_of_length_le (by omega)
            have hn : nodeB i (k, a, b, xs) = true := by
              unfold nodeB
              rw [e1, e2, Bool.true_and, Bool.true_and]
              refine List.all_eq_true.2 fun c hc => inR_iff.2 ?_
              have := hj.2 c (by rw [hall]; exact hc)
              omega
            have := hk5 (i + 1) ⟨hlt, okUp_succ hlt hi.2 (by rw [hy]; exact hn)⟩ (by omega)
            rw [show hp_impl_ValidShape_5 ns (usesAt ns (i + 1)) ns.length ((i + 1 : Nat) : Int) = [.box [.vec tN ns], .sl 0 tI (incs (usesAt ns i) ((kids k a b).take j))] by
              rw [usesAt_succ hlt, hy, hall]; rfl] at this
            exact this
    · have : i = ns.length := by omega
      subst this
      simp only [d_nlt hlt, cond_false]
      rw [u1, i64_of (n := (ns.length : Int) - 1) (by omega) (by omega), show ((ns.length : Int) - 1).toNat = ns.length - 1 by omega]
      have hl : ns.length - 1 < (usesAt ns ns.length).length := by rw [u1]; omega
      have h0 := u3 (ns.length - 1) _ (by omega) (get_lt hl)
      rw [u1] at hl
      simp only [d_t (show (0 : Int) ≤ (ns.length : Int) - 1 by omega), blt_t hl, Bool.and_self, cond_true]
      rw [get_lt (by rw [u1]; exact hl), h0]
      simp only [beq_self_eq_true, cond_true, d_t (show (0 : Int) ≤ 0 by decide), d_t (show (ns.length : Int) - 1 ≤ (ns.length : Int) by omega), Bool.and_self, List.drop_zero]
      rw [all_one, ← valid_last hin hi.2]
      exact h

noncomputable def c_spec_l02Count : Ctx := mkC Try.prog tyT [] [] [] 21 (fun _ => none) 0
theorem w_spec_l02Count (k : Int) (K : V → Heap → Prop) : wpFn c_spec_l02Count Try.f129 (encAs [.cell tI] (k, ())) [] K =
 cond (k == 0)
 (cond (k == 0)
 (K (.int .i64 1) [])
 (cond (k == 2)
 (cond (k == 2)
 (K (.int .i64 2) [])
 (cond (k == 1)
 (cond (k == 1)
 (K (.int .i64 3) [])
 (cond (k == 4)
 (K (.int .i64 4) [])
 (K (.int .i64 0) [])))
 (cond (k == 9)
 (cond (k == 9)
 (K (.int .i64 3) [])
 (cond (k == 4)
 (K (.int .i64 4) [])
 (K (.int .i64 0) [])))
 (cond (k == 11)
 (K (.int .i64 3) [])
 (cond (k == 4)
 (K (.int .i64 4) [])
 (K (.int .i64 0) []))))))
 (cond (k == 3)
 (K (.int .i64 2) [])
 (cond (k == 1)
 (cond (k == 1)
 (K (.int .i64 3) [])
 (cond (k == 4)
 (K (.int .i64 4) [])
 (K (.int .i64 0) [])))
 (cond (k == 9)
 (cond (k == 9)
 (K (.int .i64 3) [])
 (cond (k == 4)
 (K (.int .i64 4) [])
 (K (.int .i64 0) [])))
 (cond (k == 11)
 (K (.int .i64 3) [])
 (cond (k == 4)
 (K (.int .i64 4) [])
 (K (.int .i64 0) []))))))))
 (cond (k == 8)
 (cond (k == 8)
 (K (.int .i64 1) [])
 (cond (k == 2)
 (cond (k == 2)
 (K (.int .i64 2) [])
 (cond (k == 1)
 (cond (k == 1)
 (K (.int .i64 3) [])
 (cond (k == 4)
 (K (.int .i64 4) [])
 (K (.int .i64 0) [])))
 (cond (k == 9)
 (cond (k == 9)
 (K (.int .i64 3) [])
 (cond (k == 4)
 (K (.int .i64 4) [])
 (K (.int .i64 0) [])))
 (cond (k == 11)
 (K (.int .i64 3) [])
 (cond (k == 4)
 (K (.int .i64 4) [])
 (K (.int .i64 0) []))))))
 (cond (k == 3)
 (K (.int .i64 2) [])
 (cond (k == 1)
 (cond (k == 1)
 (K (.int .i64 3) [])
 (cond (k == 4)
 (K (.int .i64 4) [])
 (K (.int .i64 0) [])))
 (cond (k == 9)
 (cond (k == 9)
 (K (.int .i64 3) [])
 (cond (k == 4)
 (K (.int .i64 4) [])
 (K (.int .i64 0) [])))
 (cond (k == 11)
 (K (.int .i64 3) [])
 (cond (k == 4)
 (K (.int .i64 4) [])
 (K (.int .i64 0) []))))))))
 (cond (k == 10)
 (cond (k == 10)
 (K (.int .i64 1) [])
 (cond (k == 2)
 (cond (k == 2)
 (K (.int .i64 2) [])
 (cond (k == 1)
 (cond (k == 1)
 (K (.int .i64 3) [])
 (cond (k == 4)
 (K (.int .i64 4) [])
 (K (.int .i64 0) [])))
 (cond (k == 9)
 (cond (k == 9)
 (K (.int .i64 3) [])
 (cond (k == 4)
 (K (.int .i64 4) [])
 (K (.int .i64 0) [])))
 (cond (k == 11)
 (K (.int .i64 3) [])
 (cond (k == 4)
 (K (.int .i64 4) [])
 (K (.int .i64 0) []))))))
 (cond (k == 3)
 (K (.int .i64 2) [])
 (cond (k == 1)
 (cond (k == 1)
 (K (.int .i64 3) [])
 (cond (k == 4)
 (K (.int .i64 4) [])
 (K (.int .i64 0) [])))
 (cond (k == 9)
 (cond (k == 9)
 (K (.int .i64 3) [])
 (cond (k == 4)
 (K (.int .i64 4) [])
 (K (.int .i64 0) [])))
 (cond (k == 11)
 (K (.int .i64 3) [])
 (cond (k == 4)
 (K (.int .i64 4) [])
 (K (.int .i64 0) []))))))))
 (cond (k == 12)
 (cond (k == 12)
 (K (.int .i64 1) [])
 (cond (k == 2)
 (cond (k == 2)
 (K (.int .i64 2) [])
 (cond (k == 1)
 (cond (k == 1)
 (K (.int .i64 3) [])
 (cond (k == 4)
 (K (.int .i64 4) [])
 (K (.int .i64 0) [])))
 (cond (k == 9)
 (cond (k == 9)
 (K (.int .i64 3) [])
 (cond (k == 4)
 (K (.int .i64 4) [])
 (K (.int .i64 0) [])))
 (cond (k == 11)
 (K (.int .i64 3) [])
 (cond (k == 4)
 (K (.int .i64 4) [])
 (K (.int .i64 0) []))))))
 (cond (k == 3)
 (K (.int .i64 2) [])
 (cond (k == 1)
 (cond (k == 1)
 (K (.int .i64 3) [])
 (cond (k == 4)
 (K (.int .i64 4) [])
 (K (.int .i64 0) [])))
 (cond (k == 9)
 (cond (k == 9)
 (K (.int .i64 3) [])
 (cond (k == 4)
 (K (.int .i64 4) [])
 (K (.int .i64 0) [])))
 (cond (k == 11)
 (K (.int .i64 3) [])
 (cond (k == 4)
 (K (.int .i64 4) [])
 (K (.int .i64 0) []))))))))
 (cond (k == 14)
 (cond (k == 14)
 (K (.int .i64 1) [])
 (cond (k == 2)
 (cond (k == 2)
 (K (.int .i64 2) [])
 (cond (k == 1)
 (cond (k == 1)
 (K (.int .i64 3) [])
 (cond (k == 4)
 (K (.int .i64 4) [])
 (K (.int .i64 0) [])))
 (cond (k == 9)
 (cond (k == 9)
 (K (.int .i64 3) [])
 (cond (k == 4)
 (K (.int .i64 4) [])
 (K (.int .i64 0) [])))
 (cond (k == 11)
 (K (.int .i64 3) [])
 (cond (k == 4)
 (K (.int .i64 4) [])
 (K (.int .i64 0) []))))))
 (cond (k == 3)
 (K (.int .i64 2) [])
 (cond (k == 1)
 (cond (k == 1)
 (K (.int .i64 3) [])
 (cond (k == 4)
 (K (.int .i64 4) [])
 (K (.int .i64 0) [])))
 (cond (k == 9)
 (cond (k == 9)
 (K (.int .i64 3) [])
 (cond (k == 4)
 (K (.int .i64 4) [])
 (K (.int .i64 0) [])))
 (cond (k == 11)
 (K (.int .i64 3) [])
 (cond (k == 4)
 (K (.int .i64 4) [])
 (K (.int .i64 0) []))))))))
 (cond (k == 15)
 (cond (k == 15)
 (K (.int .i64 1) [])
 (cond (k == 2)
 (cond (k == 2)
 (K (.int .i64 2) [])
 (cond (k == 1)
 (cond (k == 1)
 (K (.int .i64 3) [])
 (cond (k == 4)
 (K (.int .i64 4) [])
 (K (.int .i64 0) [])))
 (cond (k == 9)
 (cond (k == 9)
 (K (.int .i64 3) [])
 (cond (k == 4)
 (K (.int .i64 4) [])
 (K (.int .i64 0) [])))
 (cond (k == 11)
 (K (.int .i64 3) [])
 (cond (k == 4)
 (K (.int .i64 4) [])
 (K (.int .i64 0) []))))))
 (cond (k == 3)
 (K (.int .i64 2) [])
 (cond (k == 1)
 (cond (k == 1)
 (K (.int .i64 3) [])
 (cond (k == 4)
 (K (.int .i64 4) [])
 (K (.int .i64 0) [])))
 (cond (k == 9)
 (cond (k == 9)
 (K (.int .i64 3) [])
 (cond (k == 4)
 (K (.int .i64 4) [])
 (K (.int .i64 0) [])))
 (cond (k == 11)
 (K (.int .i64 3) [])
 (cond (k == 4)
 (K (.int .i64 4) [])
 (K (.int .i64 0) []))))))))
 (cond (k == 16)
 (K (.int .i64 1) [])
 (cond (k == 2)
 (cond (k == 2)
 (K (.int .i64 2) [])
 (cond (k == 1)
 (cond (k == 1)
 (K (.int .i64 3) [])
 (cond (k == 4)
 (K (.int .i64 4) [])
 (K (.int .i64 0) [])))
 (cond (k == 9)
 (cond (k == 9)
 (K (.int .i64 3) [])
 (cond (k == 4)
 (K (.int .i64 4) [])
 (K (.int .i64 0) [])))
 (cond (k == 11)
 (K (.int .i64 3) [])
 (cond (k == 4)
 (K (.int .i64 4) [])
 (K (.int .i64 0) []))))))
 (cond (k == 3)
 (K (.int .i64 2) [])
 (cond (k == 1)
 (cond (k == 1)
 (K (.int .i64 3) [])
 (cond (k == 4)
 (K (.int .i64 4) [])
 (K (.int .i64 0) [])))
 (cond (k == 9)
 (cond (k == 9)
 (K (.int .i64 3) [])
 (cond (k == 4)
 (K (.int .i64 4) [])
 (K (.int .i64 0) [])))
 (cond (k == 11)
 (K (.int .i64 3) [])
 (cond (k == 4)
 (K (.int .i64 4) [])
 (K (.int .i64 0) []))))))))))))) := by kernel_rfl
noncomputable def s_spec_l02Count : Sm := semT [.cell tI] fun x => match x with | (k, _) => .int .i64 (kindN k)
theorem ok_spec_l02Count : FnOk Try.prog 129 s_spec_l02Count := fnOk_typed (fnOk_runC (C := c_spec_l02Count) rfl mixed .nil .nil .nil Try.func129 (by kernel_rfl)) fun (x : ((Int) × Unit)) wf K h => by
  obtain ⟨k, ⟨⟩⟩ := x
  replace h : K (.int .i64 (kindN k)) [] := h
  rw [w_spec_l02Count k K]
  cases hk : isK k with
  | true =>
    rcases kinds hk with e | e | e | e | e | e | e | e | e | e | e | e | e | e | e | e | e <;> subst e <;> exact h
  | false =>
    simp only [kindN, kindC, kindA, kindS, kindV_no hk] at h
    simp only [isK_ne hk (j := 0) (by decide), isK_ne hk (j := 1) (by decide), isK_ne hk (j := 2) (by decide), isK_ne hk (j := 3) (by decide), isK_ne hk (j := 4) (by decide), isK_ne hk (j := 5) (by decide), isK_ne hk (j := 6) (by decide), isK_ne hk (j := 7) (by decide), isK_ne hk (j := 8) (by decide), isK_ne hk (j := 9) (by decide), isK_ne hk (j := 10) (by decide), isK_ne hk (j := 11) (by decide), isK_ne hk (j := 12) (by decide), isK_ne hk (j := 13) (by decide), isK_ne hk (j := 14) (by decide), isK_ne hk (j := 15) (by decide), isK_ne hk (j := 16) (by decide), cond_false]
    exact h

noncomputable def c_spec_l02Leaf : Ctx := mkC Try.prog tyT [(169, s_spec_l00In)] [] [] 5 (fun _ => none) 0
theorem w_spec_l02Leaf (k : Int) (K : V → Heap → Prop) : wpFn c_spec_l02Leaf Try.f145 (encAs [.cell tI] (k, ())) [] K =
 K (.bool (inR k 0 4)) [] := by kernel_rfl
noncomputable def s_spec_l02Leaf : Sm := semT [.cell tI] fun x => match x with | (k, _) => .bool (inR k 0 4)
theorem ok_spec_l02Leaf : FnOk Try.prog 145 s_spec_l02Leaf := fnOk_typed (fnOk_runC (C := c_spec_l02Leaf) rfl mixed (.cons ok_spec_l00In .nil) .nil .nil Try.func145 (by kernel_rfl)) fun (x : ((Int) × Unit)) wf K h => by
  obtain ⟨k, ⟨⟩⟩ := x
  replace h : K (.bool (inR k 0 4)) [] := h
  rw [w_spec_l02Leaf k K]
  exact h

noncomputable def c_spec_l02Two : Ctx := mkC Try.prog tyT [(169, s_spec_l00In)] [] [] 5 (fun _ => none) 0
theorem w_spec_l02Two (k : Int) (K : V → Heap → Prop) : wpFn c_spec_l02Two Try.f146 (encAs [.cell tI] (k, ())) [] K =
 K (.bool (inR k 5 8)) [] := by kernel_rfl
noncomputable def s_spec_l02Two : Sm := semT [.cell tI] fun x => match x with | (k, _) => .bool (inR k 5 8)
theorem ok_spec_l02Two : FnOk Try.prog 146 s_spec_l02Two := fnOk_typed (fnOk_runC (C := c_spec_l02Two) rfl mixed (.cons ok_spec_l00In .nil) .nil .nil Try.func146 (by kernel_rfl)) fun (x : ((Int) × Unit)) wf K h => by
  obtain ⟨k, ⟨⟩⟩ := x
  replace h : K (.bool (inR k 5 8)) [] := h
  rw [w_spec_l02Two k K]
  exact h

noncomputable def c_spec_l02Axis : Ctx := mkC Try.prog tyT [(169, s_spec_l00In)] [] [] 5 (fun _ => none) 0
theorem w_spec_l02Axis (k : Int) (K : V → Heap → Prop) : wpFn c_spec_l02Axis Try.f158 (encAs [.cell tI] (k, ())) [] K =
 K (.bool (inR k 12 14)) [] := by kernel_rfl
noncomputable def s_spec_l02Axis : Sm := semT [.cell tI] fun x => match x with | (k, _) => .bool (inR k 12 14)
theorem ok_spec_l02Axis : FnOk Try.prog 158 s_spec_l02Axis := fnOk_typed (fnOk_runC (C := c_spec_l02Axis) rfl mixed (.cons ok_spec_l00In .nil) .nil .nil Try.func158 (by kernel_rfl)) fun (x : ((Int) × Unit)) wf K h => by
  obtain ⟨k, ⟨⟩⟩ := x
  replace h : K (.bool (inR k 12 14)) [] := h
  rw [w_spec_l02Axis k K]
  exact h

end Go.Proofs.Ytfhpmcdbfebflaa

/- Shapes and lists of shapes, as the laws copy, count and compare them. -/
set_option linter.unusedVariables false
set_option linter.unusedSimpArgs false
set_option maxRecDepth 100000
namespace Go.Proofs.Ytfhpmcdbfebflaa
open Go.Ev

abbrev tS : Ty := .slice tN
abbrev ShapeD := List NodeD
def fitN (n : NodeD) : Bool := decide (n.2.2.2.length ≤ 1048576)
def fitS (s : ShapeD) : Bool := decide (s.length ≤ 1048576) && s.all fitN









end Go.Proofs.Ytfhpmcdbfebflaa

/- Floats as rational numbers: rungs and their magnitudes, and to what rung a number is rounded. -/
set_option linter.unusedVariables false
namespace Go.Ev
open Ieee

def pw (e : Int) : Rat := (2 : Rat) ^ e
theorem pw_pos (e : Int) : 0 < pw e := Rat.zpow_pos (by decide)
theorem pw_add (a b : Int) : pw (a + b) = pw a * pw b := Rat.zpow_add (by decide) a b
theorem pw_nat (n : Nat) : pw (n : Int) = ((2 ^ n : Nat) : Rat) := by
  unfold pw
  rw [Rat.zpow_natCast]
  induction n with
  | zero => rfl
  | succ n ih => rw [Rat.pow_succ, ih, Nat.pow_succ, Rat.natCast_mul]; rfl
theorem pw_zero : pw 0 = 1 := Rat.zpow_zero _
theorem pw_succ (e : Int) : pw (e + 1) = 2 * pw e := by
  rw [pw_add, Rat.mul_comm]; congr 1
theorem pw_le {a b : Int} (h : a ≤ b) : pw a ≤ pw b := by
  obtain ⟨n, rfl⟩ : ∃ n : Nat, b = a + n := ⟨(b - a).toNat, by omega⟩
  rw [pw_add, pw_nat]
  have h1 := pw_pos a
  have h2 : (1 : Rat) ≤ ((2 ^ n : Nat) : Rat) := by
    have := Nat.two_pow_pos n
    exact_mod_cast this
  calc pw a = pw a * 1 := by grind
    _ ≤ _ := Rat.mul_le_mul_of_nonneg_left h2 (Rat.le_of_lt h1)

namespace Fl
variable (f : Format)

theorem B0 : 0 < f.binade := Nat.two_pow_pos _

def mgN (r : Nat) : Nat := if r < f.binade then r else (f.binade + r % f.binade) * 2 ^ (r / f.binade - 1)
def mg (r : Nat) : Rat := (mgN f r : Rat) * pw f.leastPlace

theorem mgN_at (p j : Nat) (hj : j ≤ 2 * f.binade) (h : p = 0 ∨ f.binade ≤ j) : mgN f (p * f.binade + j) = j * 2 ^ p := by
  have b0 := B0 f
  unfold mgN
  generalize f.binade = B at *
  by_cases h1 : j < B
  · have : p = 0 := by omega
    subst this
    rw [if_pos (by omega)]
    simp
  · by_cases h2 : j = 2 * B
    · subst h2
      have e : p * B + 2 * B = (p + 2) * B := by rw [Nat.add_mul]
      have e3 : B ≤ (p + 2) * B := Nat.le_mul_of_pos_left B (by omega)
      rw [e, if_neg (by omega), Nat.mul_mod_left, Nat.mul_div_cancel _ b0]
      have : p + 2 - 1 = p + 1 := by omega
      rw [this, Nat.pow_succ, Nat.add_zero, Nat.mul_comm 2 B, Nat.mul_assoc, Nat.mul_comm 2 (2 ^ p)]
    · obtain ⟨t, rfl⟩ : ∃ t, j = B + t := ⟨j - B, by omega⟩
      have e : p * B + (B + t) = t + B * (p + 1) := by rw [Nat.mul_add, Nat.mul_comm]; omega
      have e3 : B ≤ B * (p + 1) := Nat.le_mul_of_pos_right B (by omega)
      rw [e, if_neg (by omega), Nat.add_mul_mod_self_left, Nat.mod_eq_of_lt (by omega), Nat.add_mul_div_left _ _ b0, Nat.div_eq_of_lt (by omega)]
      simp

theorem scale (r : Nat) : ∃ p j, r = p * f.binade + j ∧ j < 2 * f.binade ∧ (p = 0 ∨ f.binade ≤ j) := by
  have b0 := B0 f
  generalize f.binade = B at *
  by_cases h : r < B
  · exact ⟨0, r, by omega, by omega, .inl rfl⟩
  · have h1 := Nat.div_add_mod r B
    have h2 := Nat.mod_lt r b0
    have h3 : 1 ≤ r / B := (Nat.one_le_div_iff b0).2 (by omega)
    refine ⟨r / B - 1, B + r % B, ?_, by omega, .inr (by omega)⟩
    have : r / B = r / B - 1 + 1 := by omega
    rw [this, Nat.mul_add, Nat.mul_comm] at h1
    omega

theorem mgN_lt_succ (r : Nat) : mgN f r < mgN f (r + 1) := by
  obtain ⟨p, j, e, h1, h2⟩ := scale f r
  subst e
  rw [mgN_at f p j (by omega) h2, Nat.add_assoc, mgN_at f p (j + 1) (by omega) (by omega)]
  exact Nat.mul_lt_mul_of_pos_right (by omega) (Nat.two_pow_pos _)
theorem mgN_lt {r s : Nat} (h : r < s) : mgN f r < mgN f s := by
  induction s with
  | zero => omega
  | succ s ih =>
    by_cases e : r = s
    · subst e; exact mgN_lt_succ f r
    · exact Nat.lt_trans (ih (by omega)) (mgN_lt_succ f s)
theorem mgN_le {r s : Nat} (h : r ≤ s) : mgN f r ≤ mgN f s := by
  by_cases e : r = s
  · subst e; exact Nat.le_refl _
  · exact Nat.le_of_lt (mgN_lt f (by omega))
theorem mg_lt {r s : Nat} (h : r < s) : mg f r < mg f s :=
  Rat.mul_lt_mul_of_pos_right (Rat.natCast_lt_natCast.2 (mgN_lt f h)) (pw_pos _)
theorem mg_le {r s : Nat} (h : r ≤ s) : mg f r ≤ mg f s :=
  Rat.mul_le_mul_of_nonneg_right (Rat.natCast_le_natCast.2 (mgN_le f h)) (Rat.le_of_lt (pw_pos _))
theorem lt_of_mg {r s : Nat} (h : mg f r < mg f s) : r < s := by
  refine Nat.lt_of_not_le fun h2 => ?_
  have := mg_le f h2
  grind
theorem le_of_mg {r s : Nat} (h : mg f r ≤ mg f s) : r ≤ s := by
  refine Nat.le_of_not_lt fun h2 => ?_
  have := mg_lt f h2
  grind
theorem mg_inj {r s : Nat} (h : mg f r = mg f s) : r = s :=
  Nat.le_antisymm (le_of_mg f (by grind)) (le_of_mg f (by grind))
theorem mg_zero : mg f 0 = 0 := by
  have : mgN f 0 = 0 := by unfold mgN; rw [if_pos (B0 f)]
  unfold mg
  rw [this]
  exact Rat.zero_mul _
theorem mg_nonneg (r : Nat) : 0 ≤ mg f r := by rw [← mg_zero f]; exact mg_le f (Nat.zero_le r)
theorem mg_at (p j : Nat) (hj : j ≤ 2 * f.binade) (h : p = 0 ∨ f.binade ≤ j) : mg f (p * f.binade + j) = (j : Rat) * pw (f.leastPlace + p) := by
  unfold mg
  rw [mgN_at f p j hj h, pw_add, pw_nat, Rat.natCast_mul]
  grind

theorem cut_spec (neg : Bool) (n d : Nat) : 2 * n ≤ (2 * Toward.even.cut neg n d + 1) * 2 ^ d ∧ 2 * (Toward.even.cut neg n d) * 2 ^ d ≤ 2 * n + 2 ^ d ∧
    ((2 * n = (2 * Toward.even.cut neg n d + 1) * 2 ^ d ∨ 2 * (Toward.even.cut neg n d) * 2 ^ d = 2 * n + 2 ^ d) → Toward.even.cut neg n d % 2 = 0) := by
  unfold Toward.cut
  simp only []
  by_cases hd : d ≤ n.log2 + 2
  · rw [Nat.min_eq_left hd, Nat.shiftLeft_eq, Nat.one_mul]
    have g0 := Nat.two_pow_pos d
    generalize 2 ^ d = g at *
    have h1 := Nat.div_add_mod n g
    have h2 := Nat.mod_lt n g0
    generalize n / g = low at *
    generalize n % g = rest at *
    have e1 : (2 * low + 1) * g = 2 * (g * low) + g := by grind
    have e2 : (2 * (low + 1) + 1) * g = 2 * (g * low) + 3 * g := by grind
    have e3 : 2 * low * g = 2 * (g * low) := by grind
    have e4 : 2 * (low + 1) * g = 2 * (g * low) + 2 * g := by grind
    by_cases c1 : g < 2 * rest
    · have : (decide (g < 2 * rest) || g == 2 * rest && low % 2 == 1).toNat = 1 := by simp [c1]
      rw [this, e2, e4]
      refine ⟨by omega, by omega, fun h => ?_⟩
      omega
    · by_cases c2 : g = 2 * rest
      · by_cases c3 : low % 2 = 1
        · have : (decide (g < 2 * rest) || g == 2 * rest && low % 2 == 1).toNat = 1 := by simp [c2, c3]
          rw [this, e2, e4]
          refine ⟨by omega, by omega, fun h => ?_⟩
          omega
        · have : (decide (g < 2 * rest) || g == 2 * rest && low % 2 == 1).toNat = 0 := by simp [c2, c3]
          simp only [this, Nat.add_zero, e1, e3]
          refine ⟨by omega, by omega, fun h => ?_⟩
          omega
      · have : (decide (g < 2 * rest) || g == 2 * rest && low % 2 == 1).toNat = 0 := by simp [c1, c2]
        simp only [this, Nat.add_zero, e1, e3]
        refine ⟨by omega, by omega, fun h => ?_⟩
        omega
  · have hl : n < 2 ^ (n.log2 + 1) := Nat.lt_log2_self
    have hg : 2 ^ (n.log2 + 2) = 2 * 2 ^ (n.log2 + 1) := by rw [Nat.pow_succ, Nat.mul_comm]
    have hp : 2 ^ (n.log2 + 2) ≤ 2 ^ d := Nat.pow_le_pow_right (by omega) (by omega)
    rw [Nat.min_eq_right (by omega), Nat.shiftLeft_eq, Nat.one_mul, Nat.div_eq_of_lt (by omega), Nat.mod_eq_of_lt (by omega)]
    have : (decide (2 ^ (n.log2 + 2) < 2 * n) || 2 ^ (n.log2 + 2) == 2 * n && 0 % 2 == 1).toNat = 0 := by
      rw [decide_eq_false (by omega)]; simp
    rw [this]
    refine ⟨by omega, by omega, fun _ => rfl⟩

def rg (m : Nat) (e : Int) : Nat :=
  if m = 0 then 0 else
  min ((max (e + m.log2 - f.fractionBits) f.leastPlace - f.leastPlace).toNat * f.binade + Toward.even.cut false (m <<< (e - max (e + m.log2 - f.fractionBits) f.leastPlace).toNat) (max (e + m.log2 - f.fractionBits) f.leastPlace - e).toNat) f.infRung

theorem nearest_eq (neg : Bool) (m : Nat) (e : Int) : f.nearest neg m e = f.word neg (rg f m e) := by
  unfold Format.nearest rg
  by_cases h : m = 0
  · rw [if_pos h, if_pos h]
  · rw [if_neg h, if_neg h]
    rfl

theorem rg_scale {m : Nat} {e : Int} (hm : m ≠ 0) : ∃ p c : Nat, rg f m e = min (p * f.binade + c) f.infRung ∧ (p = 0 ∨ f.binade ≤ c) ∧ c ≤ 2 * f.binade ∧
    (p = 0 ∨ (f.binade : Rat) * pw (f.leastPlace + p) ≤ (m : Rat) * pw e) ∧ (m : Rat) * pw e < (2 * f.binade : Rat) * pw (f.leastPlace + p) ∧
    2 * ((m : Rat) * pw e) ≤ (2 * c + 1) * pw (f.leastPlace + p) ∧ (2 * c : Rat) * pw (f.leastPlace + p) ≤ 2 * ((m : Rat) * pw e) + pw (f.leastPlace + p) ∧
    ((2 * ((m : Rat) * pw e) = (2 * c + 1) * pw (f.leastPlace + p) ∨ (2 * c : Rat) * pw (f.leastPlace + p) = 2 * ((m : Rat) * pw e) + pw (f.leastPlace + p)) → c % 2 = 0) := by
  unfold rg
  rw [if_neg hm]
  have hlast : f.leastPlace ≤ max (e + m.log2 - f.fractionBits) f.leastPlace := Int.le_max_right _ _
  have hlast2 : e + m.log2 - f.fractionBits ≤ max (e + m.log2 - f.fractionBits) f.leastPlace := Int.le_max_left _ _
  have hlast3 : max (e + m.log2 - f.fractionBits) f.leastPlace = f.leastPlace ∨ max (e + m.log2 - f.fractionBits) f.leastPlace = e + m.log2 - f.fractionBits := by omega
  generalize max (e + m.log2 - f.fractionBits) f.leastPlace = last at *
  obtain ⟨p, hp⟩ : ∃ p : Nat, last = f.leastPlace + p := ⟨(last - f.leastPlace).toNat, by omega⟩
  have hp2 : (last - f.leastPlace).toNat = p := by omega
  rw [hp2]
  have hs := cut_spec false (m <<< (e - last).toNat) (last - e).toNat
  generalize hc : Toward.even.cut false (m <<< (e - last).toNat) (last - e).toNat = c at *
  -- the number in units
  have hx : (m : Rat) * pw e * ((2 ^ (last - e).toNat : Nat) : Rat) = ((m <<< (e - last).toNat : Nat) : Rat) * pw last := by
    rw [Nat.shiftLeft_eq, Rat.natCast_mul, ← pw_nat, ← pw_nat, Rat.mul_assoc, ← pw_add, Rat.mul_assoc, ← pw_add]
    congr 2
    omega
  have hu := pw_pos last
  have g0 : (0 : Rat) < ((2 ^ (last - e).toNat : Nat) : Rat) := Rat.natCast_pos.2 (Nat.two_pow_pos _)
  generalize m <<< (e - last).toNat = n at *
  generalize hgg : 2 ^ (last - e).toNat = g at *
  have b0 := B0 f
  -- bounds by the logarithm
  have hm1 : 2 ^ m.log2 ≤ m := Nat.log2_self_le hm
  have hm2 : m < 2 ^ (m.log2 + 1) := Nat.lt_log2_self
  have hlo : last = e + m.log2 - f.fractionBits → (f.binade : Rat) * pw last ≤ (m : Rat) * pw e := by
    intro h
    have e1 : (f.binade : Rat) * pw last = ((2 ^ m.log2 : Nat) : Rat) * pw e := by
      unfold Format.binade
      rw [← pw_nat, ← pw_nat, ← pw_add, ← pw_add]
      congr 1
      omega
    rw [e1]
    exact Rat.mul_le_mul_of_nonneg_right (Rat.natCast_le_natCast.2 hm1) (Rat.le_of_lt (pw_pos _))
  have hhi : (m : Rat) * pw e < (2 * f.binade : Rat) * pw last := by
    have e1 : (m : Rat) * pw e < ((2 ^ (m.log2 + 1) : Nat) : Rat) * pw e := Rat.mul_lt_mul_of_pos_right (Rat.natCast_lt_natCast.2 hm2) (pw_pos _)
    have e2 : ((2 ^ (m.log2 + 1) : Nat) : Rat) * pw e ≤ (2 * f.binade : Rat) * pw last := by
      have e3 : (2 * f.binade : Rat) = pw ((f.fractionBits + 1 : Nat) : Int) := by
        rw [pw_nat]
        unfold Format.binade
        rw [Nat.pow_succ, Rat.natCast_mul]
        grind
      rw [e3, ← pw_nat, ← pw_add, ← pw_add]
      exact pw_le (by omega)
    grind
  have hn0 : (0 : Rat) ≤ (n : Rat) := Rat.natCast_nonneg
  -- the cut in units
  obtain ⟨s1, s2, s3⟩ := hs
  have s1' : (2 * n : Rat) ≤ (2 * c + 1) * g := by
    have := Rat.natCast_le_natCast.2 s1
    simpa [Rat.natCast_mul, Rat.natCast_add] using this
  have s2' : (2 * c * g : Rat) ≤ 2 * n + g := by
    have := Rat.natCast_le_natCast.2 s2
    simpa [Rat.natCast_mul, Rat.natCast_add] using this
  have cancel : ∀ {a b : Rat}, a * g ≤ b * g → a ≤ b := fun h => Rat.le_of_mul_le_mul_right h g0
  have q1 : 2 * ((m : Rat) * pw e) ≤ (2 * c + 1) * pw last := by
    refine cancel ?_
    have := Rat.mul_le_mul_of_nonneg_right s1' (Rat.le_of_lt hu)
    grind
  have q2 : (2 * c : Rat) * pw last ≤ 2 * ((m : Rat) * pw e) + pw last := by
    refine cancel ?_
    have := Rat.mul_le_mul_of_nonneg_right s2' (Rat.le_of_lt hu)
    grind
  have uu : ∀ {a b : Rat}, a * pw last ≤ b * pw last → a ≤ b := fun h => Rat.le_of_mul_le_mul_right h hu
  have hcB : c ≤ 2 * f.binade := by
    have : (2 * c : Rat) * pw last < (4 * f.binade + 1) * pw last := by grind
    have h3 : (2 * c : Rat) < 4 * f.binade + 1 := Rat.lt_of_mul_lt_mul_right this (Rat.le_of_lt hu)
    have h4 : ((2 * c : Nat) : Rat) < ((4 * f.binade + 1 : Nat) : Rat) := by
      simpa [Rat.natCast_mul, Rat.natCast_add] using h3
    have := Rat.natCast_lt_natCast.1 h4
    omega
  have hpB : p = 0 ∨ f.binade ≤ c := by
    by_cases h0 : p = 0
    · exact .inl h0
    · right
      have h1 := hlo (by omega)
      have : (2 * f.binade : Rat) * pw last ≤ (2 * c + 1) * pw last := by grind
      have h3 := uu this
      have h4 : ((2 * f.binade : Nat) : Rat) ≤ ((2 * c + 1 : Nat) : Rat) := by
        simpa [Rat.natCast_mul, Rat.natCast_add] using h3
      have := Rat.natCast_le_natCast.1 h4
      omega
  refine ⟨p, c, rfl, hpB, hcB, ?_⟩
  rw [← hp]
  refine ⟨?_, hhi, q1, q2, ?_⟩
  · by_cases h0 : p = 0
    · exact .inl h0
    · exact .inr (hlo (by omega))
  · intro h
    apply s3
    have inj : ∀ {a b : Nat}, (a : Rat) = (b : Rat) → a = b := fun h => Nat.le_antisymm (Rat.natCast_le_natCast.1 (by grind)) (Rat.natCast_le_natCast.1 (by grind))
    have canc : ∀ {a b : Rat}, a * pw last = b * pw last → a = b := fun {a b} h => by
      have e1 := uu (a := a) (b := b) (by grind)
      have e2 := uu (a := b) (b := a) (by grind)
      grind
    rcases h with h | h
    · left
      apply inj
      rw [Rat.natCast_mul, Rat.natCast_mul, Rat.natCast_add, Rat.natCast_mul]
      apply canc
      have := congrArg (· * (g : Rat)) h
      grind
    · right
      apply inj
      rw [Rat.natCast_mul, Rat.natCast_mul, Rat.natCast_add, Rat.natCast_mul]
      apply canc
      have := congrArg (· * (g : Rat)) h
      grind

end Fl
end Go.Ev

/- Floats as rational numbers: the nearest rung. -/
set_option linter.unusedVariables false
namespace Go.Ev
open Ieee

namespace Fl
variable (f : Format)

theorem cast_pred {c : Nat} (h : c ≠ 0) : ((c - 1 : Nat) : Rat) = (c : Rat) - 1 := by
  have : ((c - 1 + 1 : Nat) : Rat) = ((c - 1 : Nat) : Rat) + 1 := by rw [Rat.natCast_add]; rfl
  rw [show c - 1 + 1 = c by omega] at this
  grind

structure Near (a : Rat) (r : Nat) : Prop where
  inf : r ≤ f.infRung
  lo : ∀ t, t ≤ f.infRung → mg f t ≤ a → t ≤ r
  hi : ∀ t, a ≤ mg f t → r ≤ t
  lt : ∀ t, t < f.infRung → 2 * a < mg f t + mg f (t + 1) → r ≤ t
  gt : ∀ t, t < f.infRung → mg f t + mg f (t + 1) < 2 * a → t + 1 ≤ r
  tie : ∀ t, t < f.infRung → 2 * a = mg f t + mg f (t + 1) → r = t + t % 2

variable {f}
theorem Near.mono {a b : Rat} {r s : Nat} (h1 : Near f a r) (h2 : Near f b s) (h : a ≤ b) : r ≤ s := by
  refine Nat.le_of_not_lt fun hlt => ?_
  have i1 := h1.inf
  have x1 : b < mg f (s + 1) := Rat.not_le.1 fun hc => by have := h2.lo _ (by omega) hc; omega
  have x2 : mg f (r - 1) < a := Rat.not_le.1 fun hc => by have := h1.hi _ hc; omega
  have x3 : mg f (r - 1) < mg f (s + 1) := by grind
  have x4 := lt_of_mg f x3
  have e : r = s + 1 := by omega
  subst e
  have y1 : ¬ 2 * a < mg f s + mg f (s + 1) := fun hc => by have := h1.lt s (by omega) hc; omega
  have y2 : ¬ mg f s + mg f (s + 1) < 2 * b := fun hc => by have := h2.gt s (by omega) hc; omega
  have z1 := h1.tie s (by omega) (by grind)
  have z2 := h2.tie s (by omega) (by grind)
  omega
theorem Near.exact {a : Rat} {r t : Nat} (h : Near f a r) (e : a = mg f t) (ht : t ≤ f.infRung) : r = t :=
  Nat.le_antisymm (h.hi t (by grind)) (h.lo t ht (by grind))

theorem rg_le_inf (m : Nat) (e : Int) : rg f m e ≤ f.infRung := by
  unfold rg
  split
  · omega
  · exact Nat.min_le_right _ _

theorem rg_near (hB : f.binade % 2 = 0) (m : Nat) (e : Int) : Near f ((m : Rat) * pw e) (rg f m e) := by
  by_cases hm : m = 0
  · subst hm
    have h0 : ((0 : Nat) : Rat) * pw e = 0 := Rat.zero_mul _
    have hr : rg f 0 e = 0 := by unfold rg; rw [if_pos rfl]
    rw [h0, hr]
    have pos : ∀ t, 0 < mg f (t + 1) := fun t => by rw [← mg_zero f]; exact mg_lt f (by omega)
    refine ⟨by omega, fun t _ h => ?_, fun t _ => by omega, fun t _ _ => by omega, fun t _ h => ?_, fun t _ h => ?_⟩
    · rw [← mg_zero f] at h; have := le_of_mg f h; omega
    · have := pos t; have := mg_nonneg f t; grind
    · have := pos t; have := mg_nonneg f t; grind
  obtain ⟨p, c, e1, h1, h2, h3, h4, h5, h6, h7⟩ := rg_scale f (e := e) hm
  have hinf := rg_le_inf (f := f) m e
  generalize rg f m e = r at *
  generalize (m : Rat) * pw e = a at *
  have hu := pw_pos (f.leastPlace + p)
  have b0 := B0 f
  have m1 : mg f (p * f.binade + c) = (c : Rat) * pw (f.leastPlace + p) := mg_at f p c h2 h1
  have eB : p * f.binade % 2 = 0 := by rw [Nat.mul_mod, hB]; simp
  -- below the rung
  have dn : ∀ t, t + 1 ≤ p * f.binade + c → mg f t + mg f (t + 1) ≤ 2 * a ∧ (mg f t + mg f (t + 1) = 2 * a → p * f.binade + c = t + 1 ∧ c % 2 = 0) := by
    intro t ht
    have m2 : mg f (t + 1) ≤ mg f (p * f.binade + c) := mg_le f ht
    have m5 : mg f t < mg f (t + 1) := mg_lt f (by omega)
    by_cases hc0 : c = 0
    · have : p = 0 := by omega
      subst this; subst hc0; omega
    · have hcm := cast_pred hc0
      by_cases hc : p = 0 ∨ f.binade ≤ c - 1
      · have m3 : mg f (p * f.binade + (c - 1)) = ((c : Rat) - 1) * pw (f.leastPlace + p) := by rw [mg_at f p (c - 1) (by omega) hc, hcm]
        have m4 : mg f t ≤ mg f (p * f.binade + (c - 1)) := mg_le f (by omega)
        refine ⟨by grind, fun he => ?_⟩
        have := mg_inj f (show mg f (t + 1) = mg f (p * f.binade + c) by grind)
        refine ⟨by omega, h7 (by right; grind)⟩
      · have hcB : c = f.binade := by omega
        rcases h3 with h3 | h3
        · omega
        · rw [← hcB] at h3
          exact ⟨by grind, fun he => by grind⟩
  -- above it
  have up : ∀ t, p * f.binade + c ≤ t → 2 * a ≤ mg f t + mg f (t + 1) ∧ (2 * a = mg f t + mg f (t + 1) → p * f.binade + c = t ∧ c % 2 = 0) := by
    intro t ht
    have m2 : mg f (p * f.binade + c) ≤ mg f t := mg_le f ht
    have m5 : mg f t < mg f (t + 1) := mg_lt f (by omega)
    by_cases hc : c + 1 ≤ 2 * f.binade
    · have m3 : mg f (p * f.binade + (c + 1)) = ((c : Rat) + 1) * pw (f.leastPlace + p) := by
        rw [mg_at f p (c + 1) hc (by omega), Rat.natCast_add]; rfl
      have m4 : mg f (p * f.binade + (c + 1)) ≤ mg f (t + 1) := mg_le f (by omega)
      refine ⟨by grind, fun he => ?_⟩
      have := mg_inj f (show mg f (p * f.binade + c) = mg f t by grind)
      refine ⟨by omega, h7 (by left; grind)⟩
    · have hcB : c = 2 * f.binade := by omega
      rw [hcB, Rat.natCast_mul] at m1
      have : ((2 : Nat) : Rat) = 2 := rfl
      exact ⟨by grind, fun he => by grind⟩
  have lo : ∀ t, t ≤ f.infRung → mg f t ≤ a → t ≤ r := by
    intro t ht h
    rw [e1]
    refine Nat.le_min.2 ⟨Nat.le_of_not_lt fun hlt => ?_, ht⟩
    have := (up (t - 1) (by omega)).1
    rw [show t - 1 + 1 = t by omega] at this
    have : mg f (t - 1) < mg f t := mg_lt f (by omega)
    grind
  have hi : ∀ t, a ≤ mg f t → r ≤ t := by
    intro t h
    rw [e1]
    refine Nat.le_trans (Nat.min_le_left _ _) (Nat.le_of_not_lt fun hlt => ?_)
    have := (dn t (by omega)).1
    have : mg f t < mg f (t + 1) := mg_lt f (by omega)
    grind
  refine ⟨hinf, lo, hi, fun t ht h => ?_, fun t ht h => ?_, fun t ht h => ?_⟩
  · refine Nat.le_of_not_lt fun hlt => ?_
    have := (dn t (by omega)).1
    grind
  · refine Nat.le_of_not_lt fun hlt => ?_
    have := (up t (by omega)).1
    grind
  · have m5 : mg f t < mg f (t + 1) := mg_lt f (by omega)
    have r1 := lo t (by omega) (by grind)
    have r2 := hi (t + 1) (by grind)
    by_cases e2 : r = t + 1
    · have := (dn t (by omega)).2 (by grind)
      omega
    · have := (up t (by omega)).2 (by grind)
      omega

end Fl
end Go.Ev

/- Floats as rational numbers: what words stand for, their order, and their operations. -/
set_option linter.unusedVariables false
set_option linter.unusedSimpArgs false
namespace Go.Ev
open Ieee

namespace Fl

theorem even_k (k : FloatKind) : k.format.binade % 2 = 0 := by cases k <;> decide
theorem sign_pos (k : FloatKind) : 0 < signOf k := by cases k <;> decide

def sg (k : FloatKind) (b : Nat) : Bool := b / signOf k % 2 == 1
def rung (k : FloatKind) (b : Nat) : Nat := b % signOf k
def sgd (s : Bool) (q : Rat) : Rat := bif s then -q else q
theorem sgd_sgd (s : Bool) (q : Rat) : sgd s (sgd s q) = q := by cases s <;> simp [sgd, Rat.neg_neg]
def ev (k : FloatKind) (b : Nat) : Rat := sgd (sg k b) (mg k.format (rung k b))
def fin (k : FloatKind) (b : Nat) : Bool := Nat.blt (rung k b) (infOf k)
theorem fin_iff {k : FloatKind} {b : Nat} : fin k b = true ↔ rung k b < infOf k := by simp [fin, Nat.blt_eq]
theorem nan_false {k : FloatKind} {b : Nat} : nan k b = false ↔ rung k b ≤ infOf k := by
  have := nan_iff k b
  unfold rung
  cases h : nan k b
  · simp [h] at this ⊢; exact this
  · simp [h] at this ⊢; omega
theorem fin_nan {k : FloatKind} {b : Nat} (h : fin k b = true) : nan k b = false := by
  rw [nan_false]; rw [fin_iff] at h; omega

theorem read_fin {k : FloatKind} {b : Nat} (h : fin k b = true) : ∃ m e, k.format.read b = .number (sg k b) m e ∧ (m : Rat) * pw e = mg k.format (rung k b) := by
  rw [fin_iff] at h
  unfold Format.read
  simp only [sign_eq, inf_eq]
  unfold rung sg mg mgN at *
  by_cases h1 : b % signOf k < k.format.binade
  · rw [if_pos h1, if_pos h1]
    exact ⟨_, _, rfl, rfl⟩
  · rw [if_neg h1, if_neg h1, if_pos h]
    refine ⟨_, _, rfl, ?_⟩
    rw [pw_add, pw_nat, Rat.natCast_mul]
    grind
theorem read_inf {k : FloatKind} {b : Nat} (h : rung k b = infOf k) : k.format.read b = .infinity (sg k b) := by
  have := binade_le k
  unfold Format.read
  simp only [sign_eq, inf_eq]
  unfold rung sg at *
  rw [if_neg (by omega), if_neg (by omega), if_pos h]

theorem word_sg {k : FloatKind} {s : Bool} {r : Nat} (h : r ≤ infOf k) : sg k (k.format.word s r) = s ∧ rung k (k.format.word s r) = r ∧ k.format.word s r < 2 * signOf k := by
  have := inf_lt_sign k
  have s0 := sign_pos k
  unfold Format.word sg rung
  rw [sign_eq]
  cases s
  · simp only [Bool.false_eq_true, if_false]
    rw [Nat.div_eq_of_lt (by omega)]
    exact ⟨rfl, Nat.mod_eq_of_lt (by omega), by omega⟩
  · simp only [if_true]
    rw [Nat.add_div_left _ s0, Nat.div_eq_of_lt (by omega), Nat.add_mod_left]
    exact ⟨rfl, Nat.mod_eq_of_lt (by omega), by omega⟩
theorem word_of {k : FloatKind} {b : Nat} (h : b < 2 * signOf k) : k.format.word (sg k b) (rung k b) = b := by
  have s0 := sign_pos k
  unfold Format.word sg rung
  rw [sign_eq]
  have h1 := Nat.div_add_mod b (signOf k)
  have h2 : b / signOf k < 2 := (Nat.div_lt_iff_lt_mul s0).2 h
  by_cases h3 : b / signOf k = 0
  · simp only [h3, Nat.mul_zero, Nat.zero_add] at h1
    simp [h3, h1]
  · have h4 : b / signOf k = 1 := Nat.le_antisymm (Nat.le_of_lt_succ h2) (Nat.pos_of_ne_zero h3)
    simp only [h4, Nat.mul_one] at h1
    simp [h4, h1]
theorem ev_word {k : FloatKind} {s : Bool} {r : Nat} (h : r ≤ infOf k) : ev k (k.format.word s r) = sgd s (mg k.format r) := by
  unfold ev
  rw [(word_sg h).1, (word_sg h).2.1]

theorem near_self {f : Format} (hB : f.binade % 2 = 0) {r : Nat} (h : r ≤ f.infRung) : Near f (mg f r) r := by
  have h1 := rg_near hB (mgN f r) f.leastPlace
  have h2 := h1.exact (t := r) rfl h
  rw [h2] at h1
  exact h1

def Rnd (k : FloatKind) (q : Rat) (b : Nat) : Prop := ∃ s r, b = k.format.word s r ∧ 0 ≤ sgd s q ∧ Near k.format (sgd s q) r

theorem Rnd.of {k : FloatKind} {s : Bool} {m : Nat} {e : Int} {q : Rat} (h : sgd s ((m : Rat) * pw e) = q) : Rnd k q (k.format.nearest s m e) := by
  refine ⟨s, rg k.format m e, nearest_eq _ _ _ _, ?_, ?_⟩
  · rw [← h, sgd_sgd]
    exact Rat.mul_nonneg Rat.natCast_nonneg (Rat.le_of_lt (pw_pos _))
  · rw [← h, sgd_sgd]
    exact rg_near (even_k k) m e
theorem Rnd.nan {k : FloatKind} {q : Rat} {b : Nat} (h : Rnd k q b) : nan k b = false := by
  obtain ⟨s, r, rfl, _, h1⟩ := h
  exact nan_word s (inf_eq k ▸ h1.inf)
theorem Rnd.lt2 {k : FloatKind} {q : Rat} {b : Nat} (h : Rnd k q b) : b < 2 * signOf k := by
  obtain ⟨s, r, rfl, _, h1⟩ := h
  exact (word_sg (inf_eq k ▸ h1.inf)).2.2
theorem rnd_self {k : FloatKind} {b : Nat} (h : nan k b = false) (h2 : b < 2 * signOf k) : Rnd k (ev k b) b := by
  rw [nan_false] at h
  refine ⟨sg k b, rung k b, (word_of h2).symm, ?_, ?_⟩
  · unfold ev; rw [sgd_sgd]; exact mg_nonneg _ _
  · unfold ev; rw [sgd_sgd]; exact near_self (even_k k) (by rw [inf_eq]; exact h)
theorem Rnd.mono {k : FloatKind} {q q' : Rat} {b b' : Nat} (h : Rnd k q b) (h' : Rnd k q' b') (hq : q ≤ q') : ev k b ≤ ev k b' := by
  obtain ⟨s, r, rfl, p1, n1⟩ := h
  obtain ⟨s', r', rfl, p2, n2⟩ := h'
  have i1 := n1.inf
  have i2 := n2.inf
  rw [inf_eq] at i1 i2
  rw [ev_word i1, ev_word i2]
  have a1 := mg_nonneg k.format r
  have a2 := mg_nonneg k.format r'
  cases s <;> cases s' <;> simp only [sgd, cond_true, cond_false] at *
  · exact mg_le _ (n1.mono n2 hq)
  · have e1 : q = 0 := by grind
    have e2 : q' = 0 := by grind
    subst e1
    have z1 : r = 0 := by have := n1.hi 0 (by rw [mg_zero]; grind); omega
    have z2 : r' = 0 := by have := n2.hi 0 (by rw [mg_zero]; grind); omega
    subst z1; subst z2
    rw [mg_zero]; grind
  · grind
  · have := mg_le k.format (n2.mono n1 (by grind))
    grind
theorem Rnd.exact {k : FloatKind} {q : Rat} {b w : Nat} (h : Rnd k q b) (hw : Go.Ev.nan k w = false) (hw2 : w < 2 * signOf k) (e : q = ev k w) : ev k b = ev k w := by
  have h2 := rnd_self hw hw2
  have a := h.mono h2 (by grind)
  have b := h2.mono h (by grind)
  grind
theorem Rnd.le {k : FloatKind} {q : Rat} {b w : Nat} (h : Rnd k q b) (hw : Go.Ev.nan k w = false) (hw2 : w < 2 * signOf k) (e : q ≤ ev k w) : ev k b ≤ ev k w := h.mono (rnd_self hw hw2) e
theorem Rnd.ge {k : FloatKind} {q : Rat} {b w : Nat} (h : Rnd k q b) (hw : Go.Ev.nan k w = false) (hw2 : w < 2 * signOf k) (e : ev k w ≤ q) : ev k w ≤ ev k b := (rnd_self hw hw2).mono h e

theorem ev_inj {k : FloatKind} {x y : Nat} (hx : x < 2 * signOf k) (hy : y < 2 * signOf k) (h : ev k x = ev k y) (h0 : ev k x ≠ 0) : x = y := by
  have e1 := word_of hx
  have e2 := word_of hy
  have a1 := mg_nonneg k.format (rung k x)
  have a2 := mg_nonneg k.format (rung k y)
  unfold ev at h h0
  have hs : sg k x = sg k y := by
    cases s1 : sg k x <;> cases s2 : sg k y <;> simp only [s1, s2, sgd, cond_true, cond_false] at h h0 <;> first | rfl | (exfalso; grind)
  have hr : rung k x = rung k y := by
    apply mg_inj k.format
    rw [hs] at h
    have := congrArg (sgd (sg k y)) h
    rwa [sgd_sgd, sgd_sgd] at this
  rw [← e1, ← e2, hs, hr]
theorem ev_zero {k : FloatKind} {x : Nat} (hx : x < 2 * signOf k) : ev k x = 0 ↔ x = 0 ∨ x = signOf k := by
  have e1 := word_of hx
  unfold ev
  constructor
  · intro h
    have h0 : mg k.format (rung k x) = mg k.format 0 := by
      rw [mg_zero]
      cases e : sg k x <;> rw [e] at h
      · exact h
      · have h : -mg k.format (rung k x) = 0 := h
        grind
    have := mg_inj k.format h0
    rw [this] at e1
    unfold Format.word at e1
    rw [sign_eq] at e1
    cases s : sg k x <;> simp only [s, Bool.false_eq_true, if_false, if_true] at e1
    · exact .inl e1.symm
    · exact .inr e1.symm
  · intro h
    have : rung k x = 0 := by
      unfold rung
      rcases h with rfl | rfl
      · exact Nat.zero_mod _
      · exact Nat.mod_self _
    rw [this, mg_zero]
    cases sg k x <;> simp [sgd]

def cmpQ (x y : Rat) : Ordering := if x < y then .lt else if x = y then .eq else .gt
theorem cmpQ_lt {x y : Rat} (h : x < y) : cmpQ x y = .lt := by unfold cmpQ; rw [if_pos h]
theorem cmpQ_eq {x y : Rat} (h : x = y) : cmpQ x y = .eq := by
  subst h; unfold cmpQ; rw [if_neg Rat.lt_irrefl, if_pos rfl]
theorem cmpQ_gt {x y : Rat} (h : y < x) : cmpQ x y = .gt := by
  unfold cmpQ; rw [if_neg (by grind), if_neg (by grind)]
theorem compare_rat {a b : Int} {x y u : Rat} (hu : 0 < u) (ha : (a : Rat) * u = x) (hb : (b : Rat) * u = y) : compare a b = cmpQ x y := by
  subst ha; subst hb
  rcases Int.lt_trichotomy a b with h | h | h
  · rw [cmpQ_lt (Rat.mul_lt_mul_of_pos_right (Rat.intCast_lt_intCast.2 h) hu)]
    exact Int.compare_eq_lt.2 h
  · subst h
    rw [cmpQ_eq rfl]
    exact Int.compare_eq_eq.2 rfl
  · rw [cmpQ_gt (Rat.mul_lt_mul_of_pos_right (Rat.intCast_lt_intCast.2 h) hu)]
    exact Int.compare_eq_gt.2 h
theorem signed_rat (s : Bool) (m : Nat) (i b : Int) (h : b ≤ i) : ((signed s m (i - b).toNat : Int) : Rat) * pw b = sgd s ((m : Rat) * pw i) := by
  have e : ((m <<< (i - b).toNat : Nat) : Rat) * pw b = (m : Rat) * pw i := by
    rw [Nat.shiftLeft_eq, Rat.natCast_mul, ← pw_nat, Rat.mul_assoc, ← pw_add]
    congr 2
    omega
  unfold signed
  cases s
  · show (((m <<< (i - b).toNat : Nat) : Int) : Rat) * pw b = (m : Rat) * pw i
    rw [← e]; rfl
  · show ((-((m <<< (i - b).toNat : Nat) : Int) : Int) : Rat) * pw b = -((m : Rat) * pw i)
    rw [← e, Rat.intCast_neg, Rat.neg_mul]; rfl

theorem order_ev {k : FloatKind} {x y : Nat} (hx : nan k x = false) (hy : nan k y = false) :
    k.format.order x y = some (cmpQ (ev k x) (ev k y)) := by
  rw [nan_false] at hx hy
  unfold Format.order
  have ltinf : ∀ r, r < infOf k → mg k.format r < mg k.format (infOf k) := fun r h => mg_lt _ h
  have nn := mg_nonneg k.format
  have i0 : 0 < mg k.format (infOf k) := by
    have : mg k.format 0 < mg k.format (infOf k) := mg_lt _ (by cases k <;> decide)
    rwa [mg_zero] at this
  have ev_t : ∀ {b}, sg k b = true → ev k b = -mg k.format (rung k b) := fun h => by unfold ev; rw [h]; rfl
  have ev_f : ∀ {b}, sg k b = false → ev k b = mg k.format (rung k b) := fun h => by unfold ev; rw [h]; rfl
  by_cases fx : rung k x = infOf k <;> by_cases fy : rung k y = infOf k
  · rw [read_inf fx, read_inf fy]
    cases s1 : sg k x <;> cases s2 : sg k y <;> simp only [Datum.order]
    · rw [ev_f s1, ev_f s2, fx, fy, cmpQ_eq rfl]; rfl
    · rw [ev_f s1, ev_t s2, fx, fy, cmpQ_gt (by grind)]; rfl
    · rw [ev_t s1, ev_f s2, fx, fy, cmpQ_lt (by grind)]; rfl
    · rw [ev_t s1, ev_t s2, fx, fy, cmpQ_eq rfl]; rfl
  · obtain ⟨m, e, h1, h2⟩ := read_fin (k := k) (b := y) (fin_iff.2 (by omega))
    rw [read_inf fx, h1]
    have := ltinf (rung k y) (by omega)
    have := nn (rung k y)
    cases s1 : sg k x <;> cases s2 : sg k y <;> simp only [Datum.order]
    · rw [ev_f s1, ev_f s2, fx, cmpQ_gt (by grind)]; rfl
    · rw [ev_f s1, ev_t s2, fx, cmpQ_gt (by grind)]; rfl
    · rw [ev_t s1, ev_f s2, fx, cmpQ_lt (by grind)]; rfl
    · rw [ev_t s1, ev_t s2, fx, cmpQ_lt (by grind)]; rfl
  · obtain ⟨m, e, h1, h2⟩ := read_fin (k := k) (b := x) (fin_iff.2 (by omega))
    rw [read_inf fy, h1]
    have := ltinf (rung k x) (by omega)
    have := nn (rung k x)
    cases s1 : sg k x <;> cases s2 : sg k y <;> simp only [Datum.order]
    · rw [ev_f s1, ev_f s2, fy, cmpQ_lt (by grind)]; rfl
    · rw [ev_f s1, ev_t s2, fy, cmpQ_gt (by grind)]; rfl
    · rw [ev_t s1, ev_f s2, fy, cmpQ_lt (by grind)]; rfl
    · rw [ev_t s1, ev_t s2, fy, cmpQ_gt (by grind)]; rfl
  · obtain ⟨m, e, h1, h2⟩ := read_fin (k := k) (b := x) (fin_iff.2 (by omega))
    obtain ⟨m', e', h1', h2'⟩ := read_fin (k := k) (b := y) (fin_iff.2 (by omega))
    rw [h1, h1']
    simp only [Datum.order]
    unfold ev
    rw [← h2, ← h2']
    exact congrArg some (compare_rat (pw_pos _) (signed_rat _ _ _ _ (Int.min_le_left _ _)) (signed_rat _ _ _ _ (Int.min_le_right _ _)))

section
variable {k : FloatKind} {x y : Nat}
theorem flt_ev (hx : nan k x = false) (hy : nan k y = false) : flt k x y = decide (ev k x < ev k y) := by
  unfold flt; rw [order_ev hx hy]
  by_cases h : ev k x < ev k y
  · rw [cmpQ_lt h]
    first | rw [decide_eq_true (by grind)]; rfl | rw [decide_eq_false (by grind)]; rfl
  · by_cases h' : ev k x = ev k y
    · rw [cmpQ_eq h']
      first | rw [decide_eq_true (by grind)]; rfl | rw [decide_eq_false (by grind)]; rfl
    · rw [cmpQ_gt (by grind)]
      first | rw [decide_eq_true (by grind)]; rfl | rw [decide_eq_false (by grind)]; rfl
theorem feq_ev (hx : nan k x = false) (hy : nan k y = false) : feq k x y = decide (ev k x = ev k y) := by
  unfold feq; rw [order_ev hx hy]
  by_cases h : ev k x < ev k y
  · rw [cmpQ_lt h]
    first | rw [decide_eq_true (by grind)]; rfl | rw [decide_eq_false (by grind)]; rfl
  · by_cases h' : ev k x = ev k y
    · rw [cmpQ_eq h']
      first | rw [decide_eq_true (by grind)]; rfl | rw [decide_eq_false (by grind)]; rfl
    · rw [cmpQ_gt (by grind)]
      first | rw [decide_eq_true (by grind)]; rfl | rw [decide_eq_false (by grind)]; rfl
theorem fle_ev (hx : nan k x = false) (hy : nan k y = false) : fle k x y = decide (ev k x ≤ ev k y) := by
  unfold fle; rw [order_ev hx hy]
  by_cases h : ev k x < ev k y
  · rw [cmpQ_lt h]
    first | rw [decide_eq_true (by grind)]; rfl | rw [decide_eq_false (by grind)]; rfl
  · by_cases h' : ev k x = ev k y
    · rw [cmpQ_eq h']
      first | rw [decide_eq_true (by grind)]; rfl | rw [decide_eq_false (by grind)]; rfl
    · rw [cmpQ_gt (by grind)]
      first | rw [decide_eq_true (by grind)]; rfl | rw [decide_eq_false (by grind)]; rfl
theorem fgt_ev (hx : nan k x = false) (hy : nan k y = false) : fgt k x y = decide (ev k y < ev k x) := by
  unfold fgt; rw [order_ev hx hy]
  by_cases h : ev k x < ev k y
  · rw [cmpQ_lt h]
    first | rw [decide_eq_true (by grind)]; rfl | rw [decide_eq_false (by grind)]; rfl
  · by_cases h' : ev k x = ev k y
    · rw [cmpQ_eq h']
      first | rw [decide_eq_true (by grind)]; rfl | rw [decide_eq_false (by grind)]; rfl
    · rw [cmpQ_gt (by grind)]
      first | rw [decide_eq_true (by grind)]; rfl | rw [decide_eq_false (by grind)]; rfl
theorem fge_ev (hx : nan k x = false) (hy : nan k y = false) : fge k x y = decide (ev k y ≤ ev k x) := by
  unfold fge; rw [order_ev hx hy]
  by_cases h : ev k x < ev k y
  · rw [cmpQ_lt h]
    first | rw [decide_eq_true (by grind)]; rfl | rw [decide_eq_false (by grind)]; rfl
  · by_cases h' : ev k x = ev k y
    · rw [cmpQ_eq h']
      first | rw [decide_eq_true (by grind)]; rfl | rw [decide_eq_false (by grind)]; rfl
    · rw [cmpQ_gt (by grind)]
      first | rw [decide_eq_true (by grind)]; rfl | rw [decide_eq_false (by grind)]; rfl
theorem order_nan (h : nan k x = true ∨ nan k y = true) : k.format.order x y = none := by
  unfold Format.order
  rcases h with h | h
  · obtain ⟨s, t, e⟩ := read_nan h; rw [e]; exact order_nan_l _ _ _
  · obtain ⟨s, t, e⟩ := read_nan h; rw [e]; exact order_nan_r _ _ _
theorem feq_nan (h : nan k x = true ∨ nan k y = true) : feq k x y = false := by unfold feq; rw [order_nan h]; rfl
theorem sgd_mul (s t : Bool) (a b : Rat) : sgd (s ^^ t) (a * b) = sgd s a * sgd t b := by
  cases s <;> cases t <;> simp [sgd, Rat.neg_mul, Rat.mul_neg, Rat.neg_neg]
theorem fmul_rnd (hx : fin k x = true) (hy : fin k y = true) : Rnd k (ev k x * ev k y) (fmul k x y) := by
  obtain ⟨m, e, h1, h2⟩ := read_fin hx
  obtain ⟨m', e', h1', h2'⟩ := read_fin hy
  unfold fmul Format.mul
  rw [h1, h1']
  simp only [Datum.product, Option.map_some, orNan, Format.write]
  apply Rnd.of
  unfold ev
  rw [← h2, ← h2', ← sgd_mul, pw_add, Rat.natCast_mul]
  congr 1
  grind
theorem fadd_core {s t : Bool} {m n : Nat} {i j : Int} :
    ∃ d, (Datum.number s m i).sum (.number t n j) = some d ∧ Rnd k (sgd s ((m : Rat) * pw i) + sgd t ((n : Rat) * pw j)) (k.format.write d) ∧
      (sgd s ((m : Rat) * pw i) + sgd t ((n : Rat) * pw j) = 0 → k.format.write d = k.format.word (s && t) 0) := by
  refine ⟨_, rfl, ?_, ?_⟩
  · simp only [Format.write]
    apply Rnd.of
    have e1 := signed_rat s m i (min i j) (Int.min_le_left _ _)
    have e2 := signed_rat t n j (min i j) (Int.min_le_right _ _)
    rw [← e1, ← e2, ← Rat.add_mul, ← Rat.intCast_add]
    generalize signed s m (i - min i j).toNat + signed t n (j - min i j).toNat = total
    by_cases h0 : total = 0
    · subst h0
      simp only [if_true, Int.natAbs_zero]
      have : ((0 : Nat) : Rat) * pw (min i j) = 0 := Rat.zero_mul _
      rw [this, Rat.intCast_zero, Rat.zero_mul]
      cases s && t <;> simp [sgd]
    · rw [if_neg h0]
      by_cases h : total < 0
      · rw [decide_eq_true h]
        simp only [sgd, cond_true]
        rw [← Rat.neg_mul]
        congr 1
        have : total = -(total.natAbs : Int) := by omega
        rw [this, Rat.intCast_neg, Int.natAbs_neg, Int.natAbs_natCast]
        rfl
      · rw [decide_eq_false h]
        simp only [sgd, cond_false]
        congr 1
        have : total = (total.natAbs : Int) := by omega
        rw [this, Int.natAbs_natCast]
        rfl
  · intro h
    have e1 := signed_rat s m i (min i j) (Int.min_le_left _ _)
    have e2 := signed_rat t n j (min i j) (Int.min_le_right _ _)
    rw [← e1, ← e2, ← Rat.add_mul, ← Rat.intCast_add] at h
    simp only [Format.write]
    generalize signed s m (i - min i j).toNat + signed t n (j - min i j).toNat = total at *
    have : total = 0 := by
      rcases Rat.mul_eq_zero.1 h with h | h
      · exact_mod_cast h
      · have := pw_pos (min i j); grind
    subst this
    simp [Format.nearest]
theorem fadd_rnd (hx : fin k x = true) (hy : fin k y = true) : Rnd k (ev k x + ev k y) (fadd k x y) := by
  obtain ⟨m, e, h1, h2⟩ := read_fin hx
  obtain ⟨m', e', h1', h2'⟩ := read_fin hy
  obtain ⟨d, g1, g2, _⟩ := fadd_core (k := k) (s := sg k x) (t := sg k y) (m := m) (n := m') (i := e) (j := e')
  unfold fadd Format.add
  rw [h1, h1', g1]
  unfold ev
  rw [← h2, ← h2']
  exact g2
theorem sgd_not (s : Bool) (q : Rat) : sgd (!s) q = -sgd s q := by cases s <;> simp [sgd, Rat.neg_neg]
theorem fsub_rnd (hx : fin k x = true) (hy : fin k y = true) : Rnd k (ev k x - ev k y) (fsub k x y) := by
  obtain ⟨m, e, h1, h2⟩ := read_fin hx
  obtain ⟨m', e', h1', h2'⟩ := read_fin hy
  obtain ⟨d, g1, g2, _⟩ := fadd_core (k := k) (s := sg k x) (t := !sg k y) (m := m) (n := m') (i := e) (j := e')
  unfold fsub Format.sub
  rw [h1, h1']
  simp only [Datum.opposite]
  rw [g1]
  unfold ev
  rw [← h2, ← h2']
  rw [sgd_not, ← Rat.sub_eq_add_neg] at g2
  exact g2
end

end Fl
end Go.Ev

/- Floats as rational numbers: which numbers are words, quotients, other kinds. -/
set_option linter.unusedVariables false
set_option linter.unusedSimpArgs false
namespace Go.Ev
open Ieee

theorem pw_lt_of {a b : Int} (h : pw a < pw b) : a < b := by
  refine Int.lt_of_not_ge fun hc => ?_
  have := pw_le hc
  grind
namespace Fl

theorem Near.between {f : Format} {x a lo hi : Rat} {r : Nat} (h : Near f x r) (h1 : ∀ t, mg f t ≤ lo ∨ hi ≤ mg f t) (h2 : ∀ t, mg f t + mg f (t + 1) ≤ 2 * lo ∨ 2 * hi ≤ mg f t + mg f (t + 1))
    (x1 : lo < x) (x2 : x < hi) (a1 : lo < a) (a2 : a < hi) : Near f a r := by
  refine ⟨h.inf, fun t ht e => h.lo t ht ?_, fun t e => h.hi t ?_, fun t ht e => h.lt t ht ?_, fun t ht e => h.gt t ht ?_, fun t ht e => ?_⟩
  · rcases h1 t with g | g <;> grind
  · rcases h1 t with g | g <;> grind
  · rcases h2 t with g | g <;> grind
  · rcases h2 t with g | g <;> grind
  · rcases h2 t with g | g <;> grind

theorem cast_odd {w : Nat} : ((w / 2 : Nat) : Rat) * 2 ≤ (w : Rat) ∧ (w : Rat) ≤ ((w / 2 : Nat) : Rat) * 2 + 1 := by
  have h1 : w / 2 * 2 ≤ w := by omega
  have h2 : w ≤ w / 2 * 2 + 1 := by omega
  have h1 := Rat.natCast_le_natCast.2 h1
  have h2 := Rat.natCast_le_natCast.2 h2
  rw [Rat.natCast_mul] at h1
  rw [Rat.natCast_add, Rat.natCast_mul] at h2
  exact ⟨h1, h2⟩

theorem mid1 {w v h : Rat} (e : w = 2 * v) : 2 * ((w + 1) * h) ≤ v * (2 * h) + (v + 1) * (2 * h) := by subst e; grind
theorem mid2 {w v h : Rat} (e : w = 2 * v + 1) : v * (2 * h) + (v + 1) * (2 * h) ≤ 2 * (w * h) := by subst e; grind
theorem sticky_gap {f : Format} {S : Nat} {g : Int} (hS : 2 ^ (f.fractionBits + 2) ≤ S) (hodd : S % 2 = 1) :
    ∃ lo hi : Rat, 0 ≤ lo ∧ lo ≤ ((S : Rat) - 1) * pw g ∧ ((S : Rat) + 1) * pw g ≤ hi ∧ (∀ t, mg f t ≤ lo ∨ hi ≤ mg f t) ∧ (∀ t, mg f t + mg f (t + 1) ≤ 2 * lo ∨ 2 * hi ≤ mg f t + mg f (t + 1)) := by
  have hS0 : S ≠ 0 := by omega
  obtain ⟨p, c, e1, s1, s2, s3, s4, _⟩ := rg_scale f (e := g) hS0
  have hg := pw_pos g
  have b0 := B0 f
  have hSc : ((2 ^ (f.fractionBits + 2) : Nat) : Rat) ≤ (S : Rat) := Rat.natCast_le_natCast.2 hS
  -- the scale's half is an even number of units
  have hK : g + 1 < f.leastPlace + p := by
    have t1 : pw (g + 1 + (f.fractionBits + 1 : Nat)) ≤ (S : Rat) * pw g := by
      have : pw (g + 1 + (f.fractionBits + 1 : Nat)) = ((2 ^ (f.fractionBits + 2) : Nat) : Rat) * pw g := by
        rw [← pw_nat, ← pw_add]; congr 1; omega
      rw [this]
      exact Rat.mul_le_mul_of_nonneg_right hSc (Rat.le_of_lt hg)
    have t2 : (2 * f.binade : Rat) * pw (f.leastPlace + p) = pw (f.leastPlace + p + (f.fractionBits + 1 : Nat)) := by
      rw [pw_add _ ((f.fractionBits + 1 : Nat) : Int), pw_nat]
      unfold Format.binade
      rw [Nat.pow_succ, Rat.natCast_mul]
      grind
    rw [t2] at s4
    have := pw_lt_of (show pw (g + 1 + (f.fractionBits + 1 : Nat)) < pw (f.leastPlace + p + (f.fractionBits + 1 : Nat)) by grind)
    omega
  obtain ⟨K, hKe⟩ : ∃ K : Nat, f.leastPlace + p = g + 1 + (K + 1 : Nat) := ⟨(f.leastPlace + p - g - 2).toNat, by omega⟩
  have hh : pw (f.leastPlace + p) = 2 * (((2 ^ (K + 1) : Nat) : Rat) * pw g) := by
    rw [hKe, pw_add, pw_succ, pw_nat]; grind
  have hH : (2 ^ (K + 1)) % 2 = 0 := by rw [Nat.pow_succ]; simp
  have H0 := Nat.two_pow_pos (K + 1)
  generalize 2 ^ (K + 1) = H at *
  have d1 := Nat.div_add_mod S H
  have d2 := Nat.mod_lt S H0
  have d3 : S % H % 2 = 1 := by rw [Nat.mod_mod_of_dvd _ (Nat.dvd_of_mod_eq_zero hH)]; exact hodd
  generalize S / H = w at *
  generalize S % H = ρ at *
  have hh0 : 0 < (H : Rat) * pw g := Rat.mul_pos (Rat.natCast_pos.2 H0) hg
  -- the ends
  have l1 : (w : Rat) * ((H : Rat) * pw g) ≤ ((S : Rat) - 1) * pw g := by
    have : H * w + 1 ≤ S := by omega
    have := Rat.natCast_le_natCast.2 this
    rw [Rat.natCast_add, Rat.natCast_mul] at this
    have := Rat.mul_le_mul_of_nonneg_right this (Rat.le_of_lt hg)
    grind
  have l2 : ((S : Rat) + 1) * pw g ≤ ((w : Rat) + 1) * ((H : Rat) * pw g) := by
    have : S + 1 ≤ H * w + H := by omega
    have := Rat.natCast_le_natCast.2 this
    rw [Rat.natCast_add, Rat.natCast_add, Rat.natCast_mul] at this
    have := Rat.mul_le_mul_of_nonneg_right this (Rat.le_of_lt hg)
    grind
  generalize hhg : (H : Rat) * pw g = h at *
  rw [hh] at s3 s4
  -- where the scale's digits lie
  have j1 : p = 0 ∨ f.binade ≤ w / 2 := by
    rcases s3 with s3 | s3
    · exact .inl s3
    · right
      have : (2 * f.binade : Rat) * h < ((w : Rat) + 1) * h := by grind
      have := Rat.lt_of_mul_lt_mul_right this (Rat.le_of_lt hh0)
      have : ((2 * f.binade : Nat) : Rat) < ((w + 1 : Nat) : Rat) := by
        rw [Rat.natCast_add, Rat.natCast_mul]; exact this
      have := Rat.natCast_lt_natCast.1 this
      omega
  have j2 : w / 2 + 1 ≤ 2 * f.binade := by
    have : (w : Rat) * h < (4 * f.binade : Rat) * h := by grind
    have := Rat.lt_of_mul_lt_mul_right this (Rat.le_of_lt hh0)
    have : ((w : Nat) : Rat) < ((4 * f.binade : Nat) : Rat) := by
      rw [Rat.natCast_mul]; exact this
    have := Rat.natCast_lt_natCast.1 this
    omega
  obtain ⟨c1, c2⟩ := cast_odd (w := w)
  have m1 : mg f (p * f.binade + w / 2) = ((w / 2 : Nat) : Rat) * (2 * h) := by rw [mg_at f p (w / 2) (by omega) j1, hh]
  have m2 : mg f (p * f.binade + (w / 2 + 1)) = (((w / 2 : Nat) : Rat) + 1) * (2 * h) := by
    rw [mg_at f p (w / 2 + 1) j2 (by omega), hh, Rat.natCast_add]; rfl
  have k1 : ((w / 2 : Nat) : Rat) * (2 * h) ≤ (w : Rat) * h := by
    have := Rat.mul_le_mul_of_nonneg_right c1 (Rat.le_of_lt hh0)
    grind
  have k2 : ((w : Rat) + 1) * h ≤ (((w / 2 : Nat) : Rat) + 1) * (2 * h) := by
    have : (w : Rat) + 1 ≤ (((w / 2 : Nat) : Rat) + 1) * 2 := by grind
    have := Rat.mul_le_mul_of_nonneg_right this (Rat.le_of_lt hh0)
    grind
  refine ⟨(w : Rat) * h, ((w : Rat) + 1) * h, Rat.mul_nonneg Rat.natCast_nonneg (Rat.le_of_lt hh0), l1, l2, fun t => ?_, fun t => ?_⟩
  · by_cases ht : t ≤ p * f.binade + w / 2
    · left
      have := mg_le f ht
      grind
    · right
      have := mg_le f (show p * f.binade + (w / 2 + 1) ≤ t by omega)
      grind
  · by_cases ht : t + 1 ≤ p * f.binade + w / 2
    · left
      have a1 := mg_le f ht
      have a2 := mg_lt f (show t < t + 1 by omega)
      grind
    · by_cases ht2 : t = p * f.binade + w / 2
      · subst ht2
        rw [Nat.add_assoc, m1, m2]
        by_cases ho : w = 2 * (w / 2)
        · right
          have : (w : Rat) = 2 * ((w / 2 : Nat) : Rat) := by
            have := congrArg (fun n : Nat => (n : Rat)) ho
            rw [Rat.natCast_mul] at this
            exact this
          exact mid1 this
        · left
          have ho : w = 2 * (w / 2) + 1 := by omega
          have : (w : Rat) = 2 * ((w / 2 : Nat) : Rat) + 1 := by
            have := congrArg (fun n : Nat => (n : Rat)) ho
            rw [Rat.natCast_add, Rat.natCast_mul] at this
            exact this
          exact mid2 this
      · right
        have a1 := mg_le f (show p * f.binade + (w / 2 + 1) ≤ t by omega)
        have a2 := mg_lt f (show t < t + 1 by omega)
        grind

theorem near_sticky {f : Format} (hB : f.binade % 2 = 0) {S : Nat} {g : Int} {a : Rat} (hS : 2 ^ (f.fractionBits + 2) ≤ S) (hodd : S % 2 = 1)
    (h1 : ((S : Rat) - 1) * pw g < a) (h2 : a < ((S : Rat) + 1) * pw g) : Near f a (rg f S g) := by
  obtain ⟨lo, hi, _, l1, l2, t1, t2⟩ := sticky_gap (g := g) hS hodd
  have hg := pw_pos g
  exact (rg_near hB S g).between t1 t2 (by grind) (by grind) (by grind) (by grind)

theorem fdiv_rnd {k : FloatKind} {x y : Nat} (hx : fin k x = true) (hy : fin k y = true) (h0 : ev k y ≠ 0) : Rnd k (ev k x / ev k y) (fdiv k x y) := by
  obtain ⟨m, i, h1, h2⟩ := read_fin hx
  obtain ⟨n, j, h1', h2'⟩ := read_fin hy
  have hn : n ≠ 0 := by
    intro e
    subst e
    have : ((0 : Nat) : Rat) * pw j = 0 := Rat.zero_mul _
    rw [this] at h2'
    apply h0
    unfold ev
    rw [← h2']
    cases sg k y <;> simp [sgd]
  unfold fdiv Format.div
  rw [h1, h1']
  simp only [Datum.quotient, if_neg hn, Option.map_some, orNan, Format.write, Nat.shiftLeft_eq]
  generalize hmore : k.format.fractionBits + 2 + n.log2 - m.log2 = more
  have hnp : (0 : Rat) < (n : Rat) := Rat.natCast_pos.2 (by omega)
  have hjp := pw_pos j
  have hd : (0 : Rat) < (n : Rat) * pw j := Rat.mul_pos hnp hjp
  have hev : ev k x / ev k y = sgd (sg k x ^^ sg k y) (((m : Rat) * pw i) / ((n : Rat) * pw j)) := by
    unfold ev
    rw [← h2, ← h2', Rat.div_def, Rat.div_def, sgd_mul]
    congr 1
    cases sg k y
    · rfl
    · simp only [sgd, cond_true]
      exact Rat.inv_eq_of_mul_eq_one (by rw [Rat.neg_mul, Rat.mul_neg, Rat.neg_neg]; exact Rat.mul_inv_cancel _ (by grind))
  -- the quotient in units
  have hq : ((m : Rat) * pw i) / ((n : Rat) * pw j) * (n : Rat) = (2 * ((m * 2 ^ more : Nat) : Rat)) * pw (i - j - more - 1) := by
    have e1 : ((m : Rat) * pw i) / ((n : Rat) * pw j) * ((n : Rat) * pw j) = (m : Rat) * pw i := Rat.div_mul_cancel (by grind)
    have e2 : ((m : Rat) * pw i) / ((n : Rat) * pw j) * (n : Rat) * pw j = ((2 * ((m * 2 ^ more : Nat) : Rat)) * pw (i - j - more - 1)) * pw j := by
      rw [Rat.mul_assoc, e1, Rat.natCast_mul, ← pw_nat]
      have : pw i = 2 * (pw (more : Nat) * (pw (i - j - more - 1) * pw j)) := by
        rw [← pw_add, ← pw_add, ← pw_succ]; congr 1; omega
      rw [this]; grind
    have l1 := Rat.le_of_mul_le_mul_right (show _ * pw j ≤ _ * pw j by rw [e2]; grind) hjp
    have l2 := Rat.le_of_mul_le_mul_right (show ((2 * ((m * 2 ^ more : Nat) : Rat)) * pw (i - j - more - 1)) * pw j ≤ ((m : Rat) * pw i) / ((n : Rat) * pw j) * (n : Rat) * pw j by rw [e2]; grind) hjp
    grind
  have hq0 : 0 ≤ ((m : Rat) * pw i) / ((n : Rat) * pw j) := by
    rw [Rat.div_def]
    exact Rat.mul_nonneg (Rat.mul_nonneg Rat.natCast_nonneg (Rat.le_of_lt (pw_pos _))) (Rat.le_of_lt (Rat.inv_pos.2 hd))
  rw [hev]
  generalize ((m : Rat) * pw i) / ((n : Rat) * pw j) = q at *
  have hu := pw_pos (i - j - more - 1)
  refine ⟨sg k x ^^ sg k y, _, nearest_eq _ _ _ _, by rw [sgd_sgd]; exact hq0, ?_⟩
  rw [sgd_sgd]
  have dm := Nat.div_add_mod (m * 2 ^ more) n
  have dl := Nat.mod_lt (m * 2 ^ more) (Nat.pos_of_ne_zero hn)
  have dmR : (n : Rat) * ((m * 2 ^ more / n : Nat) : Rat) + ((m * 2 ^ more % n : Nat) : Rat) = ((m * 2 ^ more : Nat) : Rat) := by
    rw [← Rat.natCast_mul, ← Rat.natCast_add, dm]
  by_cases hr : m * 2 ^ more % n = 0
  · rw [hr]
    simp only [bne_self_eq_false, Bool.toNat_false, Nat.add_zero]
    have : q = ((2 * (m * 2 ^ more / n) : Nat) : Rat) * pw (i - j - more - 1) := by
      rw [hr] at dmR
      have e3 : q * (n : Rat) = (((2 * (m * 2 ^ more / n) : Nat) : Rat) * pw (i - j - more - 1)) * (n : Rat) := by
        rw [hq, ← dmR, Rat.natCast_mul]
        have : ((0 : Nat) : Rat) = 0 := rfl
        have : ((2 : Nat) : Rat) = 2 := rfl
        grind
      have l1 := Rat.le_of_mul_le_mul_right (show q * (n : Rat) ≤ _ * (n : Rat) by rw [e3]; grind) hnp
      have l2 := Rat.le_of_mul_le_mul_right (show (((2 * (m * 2 ^ more / n) : Nat) : Rat) * pw (i - j - more - 1)) * (n : Rat) ≤ q * (n : Rat) by rw [e3]; grind) hnp
      grind
    rw [this]
    exact rg_near (even_k k) _ _
  · have hb : (m * 2 ^ more % n != 0).toNat = 1 := by simp [hr]
    rw [hb]
    have hm : m ≠ 0 := by
      intro e; subst e; simp at hr
    have hrp : 0 < m * 2 ^ more % n := Nat.pos_of_ne_zero hr
    have hS : 2 ^ (k.format.fractionBits + 2) ≤ 2 * (m * 2 ^ more / n) + 1 := by
      have a1 : 2 ^ m.log2 ≤ m := Nat.log2_self_le hm
      have a2 : n < 2 ^ (n.log2 + 1) := Nat.lt_log2_self
      have a3 : 2 ^ (k.format.fractionBits + 2 + n.log2) ≤ m * 2 ^ more := by
        have : 2 ^ (k.format.fractionBits + 2 + n.log2) ≤ 2 ^ (m.log2 + more) := Nat.pow_le_pow_right (by omega) (by omega)
        rw [Nat.pow_add 2 m.log2] at this
        exact Nat.le_trans this (Nat.mul_le_mul_right _ a1)
      have a4 : 2 ^ (k.format.fractionBits + 1) ≤ m * 2 ^ more / n := by
        rw [Nat.le_div_iff_mul_le (Nat.pos_of_ne_zero hn)]
        refine Nat.le_trans (Nat.mul_le_mul_left _ (Nat.le_of_lt a2)) ?_
        rw [← Nat.pow_add]
        have : k.format.fractionBits + 1 + (n.log2 + 1) = k.format.fractionBits + 2 + n.log2 := by omega
        rw [this]
        exact a3
      have : 2 ^ (k.format.fractionBits + 2) = 2 * 2 ^ (k.format.fractionBits + 1) := by rw [Nat.pow_succ, Nat.mul_comm]
      omega
    refine near_sticky (even_k k) hS (by omega) ?_ ?_
    · have : ((2 * (m * 2 ^ more / n) + 1 : Nat) : Rat) - 1 = 2 * ((m * 2 ^ more / n : Nat) : Rat) := by
        rw [Rat.natCast_add, Rat.natCast_mul]
        have : ((1 : Nat) : Rat) = 1 := rfl
        have : ((2 : Nat) : Rat) = 2 := rfl
        grind
      rw [this]
      have rp : (0 : Rat) < ((m * 2 ^ more % n : Nat) : Rat) := Rat.natCast_pos.2 hrp
      have e3 : (2 * ((m * 2 ^ more / n : Nat) : Rat)) * pw (i - j - more - 1) * (n : Rat) < q * (n : Rat) := by
        rw [hq, ← dmR]
        have := Rat.mul_pos rp hu
        grind
      exact Rat.lt_of_mul_lt_mul_right e3 (Rat.le_of_lt hnp)
    · have : ((2 * (m * 2 ^ more / n) + 1 : Nat) : Rat) + 1 = 2 * ((m * 2 ^ more / n : Nat) : Rat) + 2 := by
        rw [Rat.natCast_add, Rat.natCast_mul]
        have : ((1 : Nat) : Rat) = 1 := rfl
        have : ((2 : Nat) : Rat) = 2 := rfl
        grind
      rw [this]
      have rp : ((m * 2 ^ more % n : Nat) : Rat) < (n : Rat) := Rat.natCast_lt_natCast.2 dl
      have e3 : q * (n : Rat) < (2 * ((m * 2 ^ more / n : Nat) : Rat) + 2) * pw (i - j - more - 1) * (n : Rat) := by
        rw [hq, ← dmR]
        have := Rat.mul_lt_mul_of_pos_right rp hu
        grind
      exact Rat.lt_of_mul_lt_mul_right e3 (Rat.le_of_lt hnp)

theorem rep_rung (f : Format) (p : Nat) : ∀ n, n ≤ 2 * f.binade → ∃ t, mg f t = (n : Rat) * pw (f.leastPlace + p) := by
  induction p with
  | zero =>
    intro n hn
    refine ⟨0 * f.binade + n, ?_⟩
    exact mg_at f 0 n hn (.inl rfl)
  | succ p ih =>
    intro n hn
    by_cases h : f.binade ≤ n
    · exact ⟨(p + 1) * f.binade + n, mg_at f (p + 1) n hn (.inr h)⟩
    · obtain ⟨t, ht⟩ := ih (2 * n) (by omega)
      refine ⟨t, ?_⟩
      rw [ht, show f.leastPlace + ((p + 1 : Nat) : Int) = f.leastPlace + p + 1 by omega, pw_succ, Rat.natCast_mul]
      have : ((2 : Nat) : Rat) = 2 := rfl
      grind
theorem mg_inf (k : FloatKind) : mg k.format (infOf k) = match k with | .f32 => pw 128 | .f64 => pw 1024 := by
  cases k
  · have := mg_at (FloatKind.f32.format) 253 (2 * FloatKind.f32.format.binade) (Nat.le_refl _) (.inr (by decide))
    rw [show 253 * FloatKind.f32.format.binade + 2 * FloatKind.f32.format.binade = infOf .f32 by decide, show 2 * FloatKind.f32.format.binade = 2 ^ 24 by decide, ← pw_nat, ← pw_add] at this
    rw [this]; rfl
  · have := mg_at (FloatKind.f64.format) 2045 (2 * FloatKind.f64.format.binade) (Nat.le_refl _) (.inr (by decide))
    rw [show 2045 * FloatKind.f64.format.binade + 2 * FloatKind.f64.format.binade = infOf .f64 by decide, show 2 * FloatKind.f64.format.binade = 2 ^ 53 by decide, ← pw_nat, ← pw_add] at this
    rw [this]; rfl

def Rep (k : FloatKind) (q : Rat) : Prop := ∃ w, fin k w = true ∧ w < 2 * signOf k ∧ ev k w = q
theorem Rep.neg {k : FloatKind} {q : Rat} (h : Rep k q) : Rep k (-q) := by
  obtain ⟨w, h1, h2, h3⟩ := h
  rw [fin_iff] at h1
  have := word_sg (k := k) (s := !sg k w) (r := rung k w) (by omega)
  refine ⟨k.format.word (!sg k w) (rung k w), fin_iff.2 (by rw [this.2.1]; exact h1), this.2.2, ?_⟩
  rw [ev_word (by omega), sgd_not, ← h3]
  rfl
theorem rep_nat {k : FloatKind} {n : Nat} {e : Int} (hn : n ≤ 2 * k.format.binade) (he : k.format.leastPlace ≤ e) (hi : (n : Rat) * pw e < mg k.format (infOf k)) : Rep k ((n : Rat) * pw e) := by
  obtain ⟨t, ht⟩ := rep_rung k.format (e - k.format.leastPlace).toNat n hn
  rw [show k.format.leastPlace + ((e - k.format.leastPlace).toNat : Int) = e by omega] at ht
  have hlt : t < infOf k := lt_of_mg k.format (by rw [ht]; exact hi)
  have := word_sg (k := k) (s := false) (r := t) (by omega)
  refine ⟨k.format.word false t, fin_iff.2 (by rw [this.2.1]; exact hlt), this.2.2, ?_⟩
  rw [ev_word (by omega), ← ht]
  rfl
theorem Rnd.rep {k : FloatKind} {q : Rat} {b : Nat} (h : Rnd k q b) (hr : Rep k q) : fin k b = true ∧ b < 2 * signOf k ∧ ev k b = q := by
  obtain ⟨w, h1, h2, h3⟩ := hr
  have e := h.exact (fin_nan h1) h2 h3.symm
  refine ⟨?_, h.lt2, by rw [e, h3]⟩
  have hb := nan_false.1 h.nan
  have hw := fin_iff.1 h1
  rw [fin_iff]
  refine Nat.lt_of_not_le fun hc => ?_
  have hbi : rung k b = infOf k := by omega
  have i1 := mg_lt k.format hw
  have n1 := mg_nonneg k.format (rung k w)
  unfold ev at e
  rw [hbi] at e
  cases s1 : sg k b <;> cases s2 : sg k w <;> rw [s1, s2] at e <;> simp only [sgd, cond_true, cond_false] at e <;> grind

end Fl
end Go.Ev

/- Floats as rational numbers: exact steps, kinds, signs. -/
set_option linter.unusedVariables false
set_option linter.unusedSimpArgs false
namespace Go.Ev
open Ieee

namespace Fl

structure Ex (k : FloatKind) (x : Nat) (q : Rat) : Prop where
  f : fin k x = true
  l : x < 2 * signOf k
  e : ev k x = q
variable {k : FloatKind} {x y : Nat} {p q : Rat}
theorem Ex.nan (h : Ex k x q) : Go.Ev.nan k x = false := fin_nan h.f
theorem Ex.cast (h : Ex k x p) (e : p = q) : Ex k x q := e ▸ h
theorem Rnd.ex (h : Rnd k q x) (hr : Rep k q) : Ex k x q := let ⟨a, b, c⟩ := h.rep hr; ⟨a, b, c⟩
theorem Ex.rep (h : Ex k x q) : Rep k q := ⟨x, h.f, h.l, h.e⟩
theorem Ex.radd (hx : Ex k x p) (hy : Ex k y q) : Rnd k (p + q) (fadd k x y) := by
  have := fadd_rnd hx.f hy.f; rwa [hx.e, hy.e] at this
theorem Ex.rsub (hx : Ex k x p) (hy : Ex k y q) : Rnd k (p - q) (fsub k x y) := by
  have := fsub_rnd hx.f hy.f; rwa [hx.e, hy.e] at this
theorem Ex.rmul (hx : Ex k x p) (hy : Ex k y q) : Rnd k (p * q) (fmul k x y) := by
  have := fmul_rnd hx.f hy.f; rwa [hx.e, hy.e] at this
theorem Ex.rdiv (hx : Ex k x p) (hy : Ex k y q) (h0 : q ≠ 0) : Rnd k (p / q) (fdiv k x y) := by
  have := fdiv_rnd hx.f hy.f (by rw [hy.e]; exact h0); rwa [hx.e, hy.e] at this
theorem Ex.add (hx : Ex k x p) (hy : Ex k y q) (h : Rep k (p + q)) : Ex k (fadd k x y) (p + q) := (hx.radd hy).ex h
theorem Ex.sub (hx : Ex k x p) (hy : Ex k y q) (h : Rep k (p - q)) : Ex k (fsub k x y) (p - q) := (hx.rsub hy).ex h
theorem Ex.mul (hx : Ex k x p) (hy : Ex k y q) (h : Rep k (p * q)) : Ex k (fmul k x y) (p * q) := (hx.rmul hy).ex h
theorem Ex.div (hx : Ex k x p) (hy : Ex k y q) (h0 : q ≠ 0) (h : Rep k (p / q)) : Ex k (fdiv k x y) (p / q) := (hx.rdiv hy h0).ex h
theorem Ex.feq (hx : Ex k x p) (hy : Ex k y q) : feq k x y = decide (p = q) := by rw [feq_ev hx.nan hy.nan, hx.e, hy.e]
theorem Ex.flt (hx : Ex k x p) (hy : Ex k y q) : flt k x y = decide (p < q) := by rw [flt_ev hx.nan hy.nan, hx.e, hy.e]
theorem Ex.fle (hx : Ex k x p) (hy : Ex k y q) : fle k x y = decide (p ≤ q) := by rw [fle_ev hx.nan hy.nan, hx.e, hy.e]
theorem Ex.fgt (hx : Ex k x p) (hy : Ex k y q) : fgt k x y = decide (q < p) := by rw [fgt_ev hx.nan hy.nan, hx.e, hy.e]
theorem Ex.fge (hx : Ex k x p) (hy : Ex k y q) : fge k x y = decide (q ≤ p) := by rw [fge_ev hx.nan hy.nan, hx.e, hy.e]
theorem Ex.inj (hx : Ex k x p) (hy : Ex k y p) (h0 : p ≠ 0) : x = y := ev_inj hx.l hy.l (by rw [hx.e, hy.e]) (by rw [hx.e]; exact h0)

theorem rep_int {n : Int} {e : Int} (hn : n.natAbs ≤ 2 * k.format.binade) (he : k.format.leastPlace ≤ e) (hi : (n.natAbs : Rat) * pw e < mg k.format (infOf k)) : Rep k ((n : Rat) * pw e) := by
  have h := rep_nat hn he hi
  by_cases h0 : 0 ≤ n
  · have : (n : Rat) = (n.natAbs : Rat) := by
      have : n = (n.natAbs : Int) := by omega
      exact congrArg (fun z : Int => (z : Rat)) this
    rw [this]; exact h
  · have : (n : Rat) = -(n.natAbs : Rat) := by
      have : n = -(n.natAbs : Int) := by omega
      have := congrArg (fun z : Int => (z : Rat)) this
      rw [Rat.intCast_neg] at this
      exact this
    rw [this, Rat.neg_mul]
    exact h.neg
theorem rep32 (n : Int) (s : Nat) (h : q * ((2 ^ s : Nat) : Rat) = n) (h1 : n.natAbs ≤ 16777216) (h2 : s ≤ 149) : Rep .f32 q := by
  have e : q = (n : Rat) * pw (-(s : Int)) := by
    rw [← h, ← pw_nat, Rat.mul_assoc, ← pw_add, Int.add_right_neg, pw_zero, Rat.mul_one]
  rw [e]
  refine rep_int h1 (by have : FloatKind.f32.format.leastPlace = -149 := rfl; omega) ?_
  rw [mg_inf]
  have a1 : pw (-(s : Int)) ≤ pw 0 := pw_le (by omega)
  have a2 : (n.natAbs : Rat) ≤ ((2 ^ 24 : Nat) : Rat) := Rat.natCast_le_natCast.2 h1
  have a3 : (n.natAbs : Rat) * pw (-(s : Int)) ≤ (n.natAbs : Rat) * pw 0 := Rat.mul_le_mul_of_nonneg_left a1 Rat.natCast_nonneg
  have a4 : pw ((24 : Nat) : Int) < pw 128 := by
    have : pw 128 = ((2 ^ 128 : Nat) : Rat) := pw_nat 128
    rw [pw_nat, this]
    exact Rat.natCast_lt_natCast.2 (by decide)
  rw [pw_nat] at a4
  rw [pw_zero] at a3
  have : (n.natAbs : Rat) * pw (-(s : Int)) < pw 128 := by grind
  exact this
theorem rnd_int (n : Int) : Rnd k (n : Rat) (k.nearest n) := by
  unfold FloatKind.nearest FloatKind.encode
  simp only [Format.write]
  apply Rnd.of
  rw [pw_zero, Rat.mul_one]
  by_cases h : n < 0
  · rw [decide_eq_true h]
    have : n = -(n.natAbs : Int) := by omega
    have := congrArg (fun z : Int => (z : Rat)) this
    rw [Rat.intCast_neg] at this
    exact this.symm
  · rw [decide_eq_false h]
    have : n = (n.natAbs : Int) := by omega
    have := congrArg (fun z : Int => (z : Rat)) this
    exact this.symm
theorem ex_int32 {n : Int} (h : n.natAbs ≤ 16777216) : Ex .f32 (FloatKind.f32.nearest n) (n : Rat) :=
  (rnd_int n).ex (rep32 n 0 (by rw [Nat.pow_zero]; exact Rat.mul_one _) h (by omega))
theorem xor_low {n r : Nat} (h : r < 2 ^ n) : r ^^^ 2 ^ n = 2 ^ n + r := by
  apply Nat.eq_of_testBit_eq
  intro i
  rw [Nat.testBit_xor, Nat.testBit_two_pow]
  rcases Nat.lt_trichotomy i n with hi | hi | hi
  · rw [Nat.testBit_two_pow_add_gt hi, decide_eq_false (by omega), Bool.xor_false]
  · subst hi
    rw [Nat.testBit_two_pow_add_eq, Nat.testBit_lt_two_pow h]
    simp
  · have h1 : 2 ^ n + r < 2 ^ i := by
      have : 2 ^ (n + 1) ≤ 2 ^ i := Nat.pow_le_pow_right (by omega) hi
      rw [Nat.pow_succ] at this
      omega
    rw [Nat.testBit_lt_two_pow h1, Nat.testBit_lt_two_pow (by omega : r < 2 ^ i), decide_eq_false (by omega)]
    rfl
theorem sign_two (k : FloatKind) : ∃ n, signOf k = 2 ^ n := by
  cases k
  · exact ⟨31, rfl⟩
  · exact ⟨63, rfl⟩
theorem xor_word (k : FloatKind) {s : Bool} {r : Nat} (h : r ≤ infOf k) : k.format.word s r ^^^ signOf k = k.format.word (!s) r := by
  obtain ⟨n, hn⟩ := sign_two k
  have h2 := inf_lt_sign k
  unfold Format.word
  rw [sign_eq, hn]
  have := xor_low (n := n) (r := r) (by omega)
  cases s
  · simp only [Bool.not_false, Bool.false_eq_true, if_false, if_true]
    exact this
  · simp only [Bool.not_true, Bool.false_eq_true, if_false, if_true]
    rw [← this, Nat.xor_assoc, Nat.xor_self, Nat.xor_zero]
theorem fneg_word (hx : Go.Ev.nan k x = false) (hl : x < 2 * signOf k) : fneg k x = k.format.word (!sg k x) (rung k x) := by
  have hr := nan_false.1 hx
  unfold fneg
  have h1 := xor_word k (s := sg k x) hr
  rw [word_of hl] at h1
  rw [h1, canon_not (nan_word _ hr)]
theorem fneg_ev (hx : Go.Ev.nan k x = false) (hl : x < 2 * signOf k) : ev k (fneg k x) = -ev k x ∧ Go.Ev.nan k (fneg k x) = false ∧ fneg k x < 2 * signOf k ∧ rung k (fneg k x) = rung k x ∧ sg k (fneg k x) = !sg k x := by
  have hr := nan_false.1 hx
  rw [fneg_word hx hl]
  have hw := word_sg (k := k) (s := !sg k x) hr
  refine ⟨?_, nan_word _ hr, hw.2.2, hw.2.1, hw.1⟩
  rw [ev_word hr, sgd_not]; rfl
theorem Ex.neg (hx : Ex k x p) : Ex k (fneg k x) (-p) := by
  obtain ⟨h1, h2, h3, h4, _⟩ := fneg_ev hx.nan hx.l
  exact ⟨by rw [fin_iff, h4]; exact fin_iff.1 hx.f, h3, by rw [h1, hx.e]⟩

theorem sub_self (hl : x < 2 * signOf k) : Go.Ev.feq k (fsub k x x) 0 = fin k x := by
  have z : Ex k 0 0 := ⟨by cases k <;> decide, by cases k <;> decide, (ev_zero (by cases k <;> decide)).2 (.inl rfl)⟩
  by_cases h : fin k x = true
  · have hx : Ex k x (ev k x) := ⟨h, hl, rfl⟩
    have h0 : ev k x - ev k x = 0 := by grind
    have := (hx.sub hx (by rw [h0]; exact z.rep)).feq z
    rw [this, h0, h]; simp
  · have hf : fin k x = false := by simpa using h
    rw [hf]
    have : fsub k x x = qnan k := by
      unfold fsub Format.sub
      cases hn : Go.Ev.nan k x with
      | true =>
        obtain ⟨s, t, e⟩ := read_nan hn
        rw [e]; rfl
      | false =>
        have hr := nan_false.1 hn
        have : ¬ rung k x < infOf k := fun hc => h (fin_iff.2 hc)
        rw [read_inf (by omega)]
        cases sg k x <;> rfl
    rw [this]
    exact feq_nan (.inl (nan_qnan k))

theorem read_fin2 {b : Nat} (h : fin k b = true) : ∃ m e, k.format.read b = .number (sg k b) m e ∧ (m : Rat) * pw e = mg k.format (rung k b) ∧ m < 2 * k.format.binade ∧ k.format.leastPlace ≤ e := by
  obtain ⟨m, e, h1, h2⟩ := read_fin h
  refine ⟨m, e, h1, h2, ?_⟩
  rw [fin_iff] at h
  unfold Format.read at h1
  simp only [sign_eq, inf_eq] at h1
  unfold rung at h
  have b0 := B0 k.format
  by_cases g1 : b % signOf k < k.format.binade
  · rw [if_pos g1] at h1
    injection h1 with _ h3 h4
    subst h3; subst h4
    exact ⟨by omega, Int.le_refl _⟩
  · rw [if_neg g1, if_pos h] at h1
    injection h1 with _ h3 h4
    subst h3; subst h4
    have := Nat.mod_lt (b % signOf k) b0
    exact ⟨by omega, by omega⟩
theorem widen_ex {b : Nat} (h : Ex .f32 b q) : Ex .f64 (widen b) q := by
  obtain ⟨m, e, h1, h2, h3, h4⟩ := read_fin2 h.f
  have hq : sgd (sg .f32 b) ((m : Rat) * pw e) = q := by rw [h2]; exact h.e
  have hw : widen b = FloatKind.f64.format.nearest (sg .f32 b) m e := by
    unfold widen FloatKind.encode FloatKind.decode
    rw [h.nan, h1]
    rfl
  rw [hw]
  refine (Rnd.of hq).ex ?_
  have hr : Rep .f64 ((m : Rat) * pw e) := by
    refine rep_nat ?_ ?_ ?_
    · have : FloatKind.f32.format.binade = 8388608 := rfl
      have : FloatKind.f64.format.binade = 4503599627370496 := rfl
      omega
    · have : FloatKind.f32.format.leastPlace = -149 := rfl
      have : FloatKind.f64.format.leastPlace = -1074 := rfl
      omega
    · rw [h2]
      have a1 := mg_lt FloatKind.f32.format (fin_iff.1 h.f)
      have a2 : mg FloatKind.f32.format (infOf .f32) = pw 128 := mg_inf .f32
      have a3 : mg FloatKind.f64.format (infOf .f64) = pw 1024 := mg_inf .f64
      have a4 : pw 128 ≤ pw 1024 := pw_le (by omega)
      rw [a3]; rw [a2] at a1
      grind
  rw [← hq]
  cases sg .f32 b
  · exact hr
  · exact hr.neg
theorem narrow_rnd {b : Nat} (h : Ex .f64 b q) : Rnd .f32 q (narrow b) := by
  obtain ⟨m, e, h1, h2, h3, h4⟩ := read_fin2 h.f
  have hq : sgd (sg .f64 b) ((m : Rat) * pw e) = q := by rw [h2]; exact h.e
  have hw : narrow b = FloatKind.f32.format.nearest (sg .f64 b) m e := by
    unfold narrow FloatKind.encode FloatKind.decode
    rw [h.nan, h1]
    rfl
  rw [hw]
  exact Rnd.of hq
theorem ovf_false {b : Nat} (h : Ex .f64 b q) (h2 : fin .f32 (narrow b) = true) : ovf b = false := by
  obtain ⟨m, e, h1, _⟩ := read_fin2 h.f
  have hw : narrow b = FloatKind.f32.encode (.number (sg .f64 b) m e) := by
    unfold narrow FloatKind.decode
    rw [h.nan, h1]
    rfl
  unfold ovf FloatKind.decode
  rw [h1]
  simp only []
  rw [← hw]
  obtain ⟨m', e', g1, _⟩ := read_fin2 h2
  rw [g1]
  rfl
theorem narrow_ex {b : Nat} (h : Ex .f64 b q) (hr : Rep .f32 q) : Ex .f32 (narrow b) q ∧ ovf b = false := by
  have := (narrow_rnd h).ex hr
  exact ⟨this, ovf_false h this.f⟩

end Fl
end Go.Ev

/- Floats as rational numbers: the order of words, the next word, and between two words. -/
set_option linter.unusedVariables false
set_option linter.unusedSimpArgs false
namespace Go.Ev
open Ieee

namespace Fl
variable {k : FloatKind} {x y : Nat}

def pos (k : FloatKind) (x : Nat) : Int := bif sg k x then -(rung k x : Int) else (rung k x : Int)
theorem ev_lt_iff : ev k x < ev k y ↔ pos k x < pos k y := by
  have nx := mg_nonneg k.format (rung k x)
  have ny := mg_nonneg k.format (rung k y)
  unfold ev pos
  cases s1 : sg k x <;> cases s2 : sg k y <;> simp only [sgd, cond_true, cond_false]
  · constructor
    · intro h; have := lt_of_mg _ h; omega
    · intro h; exact mg_lt _ (by omega)
  · constructor
    · intro h; grind
    · intro h; omega
  · constructor
    · intro h
      by_cases h1 : rung k x = 0
      · by_cases h2 : rung k y = 0
        · rw [h1, h2, mg_zero] at h; grind
        · omega
      · omega
    · intro h
      have z := mg_zero k.format
      by_cases h1 : rung k x = 0
      · have := mg_lt k.format (show 0 < rung k y by omega)
        grind
      · have := mg_lt k.format (show 0 < rung k x by omega)
        grind
  · constructor
    · intro h
      have := lt_of_mg k.format (show mg k.format (rung k y) < mg k.format (rung k x) by grind)
      omega
    · intro h
      have := mg_lt k.format (show rung k y < rung k x by omega)
      grind
theorem ev_le_iff : ev k x ≤ ev k y ↔ pos k x ≤ pos k y := by
  have h2 := @ev_lt_iff k y x
  rw [← Rat.not_lt, h2]
  omega
section
variable (hx : nan k x = false) (hy : nan k y = false)
include hx hy
end

theorem fin_pos (hx : nan k x = false) : fin k x = true ↔ -(infOf k : Int) < pos k x ∧ pos k x < infOf k := by
  have := nan_false.1 hx
  rw [fin_iff]
  unfold pos
  cases sg k x <;> simp only [cond_true, cond_false] <;> omega

theorem x_cases (hl : x < 2 * signOf k) : (sg k x = false ∧ x = rung k x) ∨ (sg k x = true ∧ x = signOf k + rung k x) := by
  have := word_of hl
  unfold Format.word at this
  rw [sign_eq] at this
  cases h : sg k x <;> simp only [h, Bool.false_eq_true, if_false, if_true] at this
  · exact .inl ⟨rfl, this.symm⟩
  · exact .inr ⟨rfl, this.symm⟩
theorem Near.tie_val {f : Format} {a : Rat} {r t : Nat} (h : Near f a r) (ht : t < f.infRung) (e : a = (mg f t + mg f (t + 1)) / 2) : r = t + t % 2 := h.tie t ht (by grind)
theorem Rnd.tie {b t : Nat} {s : Bool} (h : Rnd k (sgd s ((mg k.format t + mg k.format (t + 1)) / 2)) b) (ht : t < infOf k) : ev k b = sgd s (mg k.format (t + t % 2)) := by
  obtain ⟨s', r, rfl, h1, h2⟩ := h
  have hi := h2.inf
  rw [inf_eq] at hi
  have n1 := mg_nonneg k.format t
  have n2 := mg_lt k.format (show t < t + 1 by omega)
  have hs : s' = s := by
    cases s <;> cases s' <;> first | rfl | (exfalso; simp only [sgd, cond_true, cond_false] at h1; grind)
  subst hs
  rw [sgd_sgd] at h2
  have := h2.tie_val (by rw [inf_eq]; exact ht) rfl
  rw [ev_word hi, this]
end Fl
end Go.Ev

/- Floats as rational numbers: the middle of two neighbours. -/
set_option linter.unusedVariables false
set_option linter.unusedSimpArgs false
namespace Go.Ev
open Ieee

namespace Fl
variable {k : FloatKind} {x y : Nat}

end Fl
end Go.Ev

/- Floats as rational numbers: square roots. -/
set_option linter.unusedVariables false
set_option linter.unusedSimpArgs false
namespace Go.Ev
open Ieee

theorem sq_le {a b : Rat} (ha : 0 ≤ a) (h : a ≤ b) : a * a ≤ b * b := by
  have h1 := Rat.mul_le_mul_of_nonneg_left h ha
  have h2 := Rat.mul_le_mul_of_nonneg_right h (show 0 ≤ b by grind)
  grind
theorem sq_lt {a b : Rat} (ha : 0 ≤ a) (h : a < b) : a * a < b * b := by
  have h1 := Rat.mul_le_mul_of_nonneg_left (Rat.le_of_lt h) ha
  have h2 := Rat.mul_lt_mul_of_pos_right h (show 0 < b by grind)
  grind
theorem le_of_sq {a b : Rat} (hb : 0 ≤ b) (h : a * a ≤ b * b) : a ≤ b := by
  refine Rat.not_lt.1 fun c => ?_
  have := sq_lt hb c
  grind
theorem lt_of_sq {a b : Rat} (hb : 0 ≤ b) (h : a * a < b * b) : a < b := by
  refine Rat.not_le.1 fun c => ?_
  have := sq_le hb c
  grind

namespace Fl
structure SNear (f : Format) (q : Rat) (r : Nat) : Prop where
  inf : r ≤ f.infRung
  lo : ∀ t, t ≤ f.infRung → mg f t * mg f t ≤ q → t ≤ r
  hi : ∀ t, q ≤ mg f t * mg f t → r ≤ t
  lt : ∀ t, t < f.infRung → 4 * q < (mg f t + mg f (t + 1)) * (mg f t + mg f (t + 1)) → r ≤ t
  gt : ∀ t, t < f.infRung → (mg f t + mg f (t + 1)) * (mg f t + mg f (t + 1)) < 4 * q → t + 1 ≤ r
  tie : ∀ t, t < f.infRung → 4 * q = (mg f t + mg f (t + 1)) * (mg f t + mg f (t + 1)) → r = t + t % 2
theorem SNear.of {f : Format} {x q : Rat} {r : Nat} (h : Near f x r) (hx : 0 ≤ x) (e : q = x * x) : SNear f q r := by
  have nn := mg_nonneg f
  subst e
  refine ⟨h.inf, fun t ht c => h.lo t ht (le_of_sq hx c), fun t c => h.hi t (le_of_sq (nn t) c), fun t ht c => h.lt t ht ?_, fun t ht c => h.gt t ht ?_, fun t ht c => h.tie t ht ?_⟩
  · have a1 := nn t
    have a2 := nn (t + 1)
    exact lt_of_sq (by grind) (by grind)
  · exact lt_of_sq (by grind) (by grind)
  · have a1 := nn t
    have a2 := nn (t + 1)
    exact Rat.le_antisymm (le_of_sq (by grind) (by grind)) (le_of_sq (by grind) (by grind))
theorem SNear.between {f : Format} {x q lo hi : Rat} {r : Nat} (h : Near f x r) (h0 : 0 ≤ lo) (h1 : ∀ t, mg f t ≤ lo ∨ hi ≤ mg f t) (h2 : ∀ t, mg f t + mg f (t + 1) ≤ 2 * lo ∨ 2 * hi ≤ mg f t + mg f (t + 1))
    (x1 : lo < x) (x2 : x < hi) (a1 : lo * lo < q) (a2 : q < hi * hi) : SNear f q r := by
  have nn := mg_nonneg f
  have hhi : 0 ≤ hi := by grind
  refine ⟨h.inf, fun t ht e => h.lo t ht ?_, fun t e => h.hi t ?_, fun t ht e => h.lt t ht ?_, fun t ht e => h.gt t ht ?_, fun t ht e => ?_⟩
  · rcases h1 t with g | g
    · grind
    · have := sq_le hhi g; grind
  · rcases h1 t with g | g
    · have := sq_le (nn t) g; grind
    · grind
  · have b1 := nn t
    have b2 := nn (t + 1)
    rcases h2 t with g | g
    · have := sq_le (by grind) g; grind
    · grind
  · rcases h2 t with g | g
    · grind
    · have := sq_le (show 0 ≤ 2 * hi by grind) g; grind
  · have b1 := nn t
    have b2 := nn (t + 1)
    rcases h2 t with g | g
    · have := sq_le (by grind) g; grind
    · have := sq_le (show 0 ≤ 2 * hi by grind) g; grind
theorem SNear.mono {f : Format} {a b : Rat} {r s : Nat} (h1 : SNear f a r) (h2 : SNear f b s) (h : a ≤ b) : r ≤ s := by
  have nn := mg_nonneg f
  refine Nat.le_of_not_lt fun hlt => ?_
  have i1 := h1.inf
  have x1 : b < mg f (s + 1) * mg f (s + 1) := Rat.not_le.1 fun hc => by have := h2.lo _ (by omega) hc; omega
  have x2 : mg f (r - 1) * mg f (r - 1) < a := Rat.not_le.1 fun hc => by have := h1.hi _ hc; omega
  have x3 : mg f (r - 1) < mg f (s + 1) := lt_of_sq (nn _) (by grind)
  have x4 := lt_of_mg f x3
  have e : r = s + 1 := by omega
  subst e
  have y1 : ¬ 4 * a < (mg f s + mg f (s + 1)) * (mg f s + mg f (s + 1)) := fun hc => by have := h1.lt s (by omega) hc; omega
  have y2 : ¬ (mg f s + mg f (s + 1)) * (mg f s + mg f (s + 1)) < 4 * b := fun hc => by have := h2.gt s (by omega) hc; omega
  have z1 := h1.tie s (by omega) (by grind)
  have z2 := h2.tie s (by omega) (by grind)
  omega

theorem rootFrom_spec (n : Nat) : ∀ (todo root : Nat), root * root ≤ n → n < (root + 2 ^ todo) * (root + 2 ^ todo) →
    Datum.rootFrom n todo root * Datum.rootFrom n todo root ≤ n ∧ n < (Datum.rootFrom n todo root + 1) * (Datum.rootFrom n todo root + 1)
  | 0, root, h1, h2 => ⟨h1, h2⟩
  | todo + 1, root, h1, h2 => by
    unfold Datum.rootFrom
    simp only [Nat.shiftLeft_eq, Nat.one_mul]
    have e : 2 ^ (todo + 1) = 2 ^ todo + 2 ^ todo := by rw [Nat.pow_succ]; omega
    rw [e, ← Nat.add_assoc] at h2
    by_cases h : (root + 2 ^ todo) * (root + 2 ^ todo) ≤ n
    · rw [if_pos h]; exact rootFrom_spec n todo _ h h2
    · rw [if_neg h]; exact rootFrom_spec n todo _ h1 (by omega)
theorem root_spec (n : Nat) : Datum.rootFrom n (n.log2 / 2 + 1) 0 * Datum.rootFrom n (n.log2 / 2 + 1) 0 ≤ n ∧ n < (Datum.rootFrom n (n.log2 / 2 + 1) 0 + 1) * (Datum.rootFrom n (n.log2 / 2 + 1) 0 + 1) := by
  refine rootFrom_spec n _ 0 (Nat.zero_le _) ?_
  rw [Nat.zero_add, ← Nat.pow_add]
  have h1 : n < 2 ^ (n.log2 + 1) := Nat.lt_log2_self
  exact Nat.lt_of_lt_of_le h1 (Nat.pow_le_pow_right (by omega) (by omega))

theorem pw_sq (e : Int) : pw e * pw e = pw (2 * e) := by rw [← pw_add]; congr 1; omega

theorem fsqrt_pos {k : FloatKind} {x : Nat} (hx : fin k x = true) (h0 : 0 < ev k x) : ∃ r, fsqrt k x = k.format.word false r ∧ SNear k.format (ev k x) r := by
  obtain ⟨m, i, h1, h2⟩ := read_fin hx
  have hs : sg k x = false := by
    cases e : sg k x with
    | false => rfl
    | true =>
      unfold ev at h0
      rw [e] at h0
      have := mg_nonneg k.format (rung k x)
      simp only [sgd, cond_true] at h0
      grind
  have hev : ev k x = (m : Rat) * pw i := by
    unfold ev
    rw [hs, h2]; rfl
  have hm : m ≠ 0 := by
    intro e
    subst e
    rw [hev] at h0
    have : ((0 : Nat) : Rat) * pw i = 0 := Rat.zero_mul _
    grind
  rw [hs] at h1
  unfold fsqrt Format.sqrt
  rw [h1]
  simp only [Datum.root, if_neg hm, Bool.false_eq_true, if_false, Option.map_some, orNan, Format.write]
  generalize hd : k.format.fractionBits + 2 = d
  generalize hmore : 2 * d - m.log2 + ((i - ((2 * d - m.log2 : Nat) : Int)) % 2).toNat = more
  have hev2 : (i - more) % 2 = 0 := by omega
  obtain ⟨j, hj⟩ : ∃ j : Int, i - more = 2 * j := ⟨(i - more) / 2, by omega⟩
  have hj2 : (i - (more : Int)) / 2 = j := by omega
  rw [hj2, Nat.shiftLeft_eq]
  obtain ⟨w1, w2⟩ := root_spec (m * 2 ^ more)
  have hlog : 2 ^ (2 * d) ≤ m * 2 ^ more := by
    have a1 : 2 ^ m.log2 ≤ m := Nat.log2_self_le hm
    have a2 : 2 ^ (2 * d) ≤ 2 ^ (m.log2 + more) := Nat.pow_le_pow_right (by omega) (by omega)
    rw [Nat.pow_add] at a2
    exact Nat.le_trans a2 (Nat.mul_le_mul_right _ a1)
  -- the number in units
  have hq : ev k x = ((m * 2 ^ more : Nat) : Rat) * pw (2 * j) := by
    rw [hev, Rat.natCast_mul, ← pw_nat, Rat.mul_assoc, ← pw_add]
    congr 2
    omega
  generalize hnn : m * 2 ^ more = n at *
  generalize Datum.rootFrom n (n.log2 / 2 + 1) 0 = w at *
  have hwd : 2 ^ d ≤ w := by
    refine Nat.le_of_not_lt fun c => ?_
    have : (w + 1) * (w + 1) ≤ 2 ^ d * 2 ^ d := Nat.mul_le_mul c c
    rw [← Nat.pow_add, show d + d = 2 * d by omega] at this
    omega
  refine ⟨_, nearest_eq _ _ _ _, ?_⟩
  have hu := pw_pos (j - 1)
  have hsq : pw (2 * j) = (2 * pw (j - 1)) * (2 * pw (j - 1)) := by
    rw [← pw_succ, pw_sq]; congr 1; omega
  have c2 : ∀ a : Nat, ((2 * a : Nat) : Rat) = 2 * (a : Rat) := fun a => by rw [Rat.natCast_mul]; rfl
  have hw0 : (0 : Rat) ≤ (w : Rat) := Rat.natCast_nonneg
  have hwu := Rat.mul_nonneg hw0 (Rat.le_of_lt hu)
  by_cases hr : w * w = n
  · have hb : (w * w != n).toNat = 0 := by rw [hr, bne_self_eq_false]; rfl
    rw [hb, Nat.add_zero]
    refine SNear.of (rg_near (even_k k) (2 * w) (j - 1)) ?_ ?_
    · exact Rat.mul_nonneg Rat.natCast_nonneg (Rat.le_of_lt hu)
    · rw [hq, hsq, ← hr, Rat.natCast_mul, c2]
      grind
  · have hb : (w * w != n).toNat = 1 := by rw [bne_iff_ne.2 hr]; rfl
    rw [hb]
    have hS : 2 ^ (k.format.fractionBits + 2) ≤ 2 * w + 1 := by rw [hd]; omega
    obtain ⟨lo, hi, g0, g1, g2, t1, t2⟩ := sticky_gap (f := k.format) (S := 2 * w + 1) (g := j - 1) hS (by omega)
    have cS : ((2 * w + 1 : Nat) : Rat) = 2 * (w : Rat) + 1 := by rw [Rat.natCast_add, c2]; rfl
    rw [cS] at g1 g2
    have hlt : w * w < n := Nat.lt_of_le_of_ne w1 hr
    have n1 : (w : Rat) * (w : Rat) < (n : Rat) := by rw [← Rat.natCast_mul]; exact Rat.natCast_lt_natCast.2 hlt
    have n2 : (n : Rat) < ((w : Rat) + 1) * ((w : Rat) + 1) := by
      have := Rat.natCast_lt_natCast.2 w2
      rw [Rat.natCast_mul, Rat.natCast_add] at this
      exact this
    have p2 : 0 < pw (2 * j) := pw_pos _
    refine SNear.between (x := ((2 * w + 1 : Nat) : Rat) * pw (j - 1)) (rg_near (even_k k) (2 * w + 1) (j - 1)) g0 t1 t2 ?_ ?_ ?_ ?_
    · rw [cS]; grind
    · rw [cS]; grind
    · have a1 := sq_le g0 (show lo ≤ 2 * ((w : Rat) * pw (j - 1)) by grind)
      have a2 := Rat.mul_lt_mul_of_pos_right n1 p2
      rw [← hq, hsq] at a2
      grind
    · have a1 := sq_le (show (0 : Rat) ≤ 2 * (((w : Rat) + 1) * pw (j - 1)) by grind) (show 2 * (((w : Rat) + 1) * pw (j - 1)) ≤ hi by grind)
      have a2 := Rat.mul_lt_mul_of_pos_right n2 p2
      rw [← hq, hsq] at a2
      grind

theorem fsqrt_neg {k : FloatKind} {x : Nat} (hx : fin k x = true) (h0 : ev k x < 0) : fsqrt k x = qnan k := by
  obtain ⟨m, i, h1, h2⟩ := read_fin hx
  have nn := mg_nonneg k.format (rung k x)
  have hs : sg k x = true := by
    cases e : sg k x with
    | true => rfl
    | false =>
      unfold ev at h0
      rw [e] at h0
      simp only [sgd, cond_false] at h0
      grind
  have hm : m ≠ 0 := by
    intro e
    subst e
    have : ((0 : Nat) : Rat) * pw i = 0 := Rat.zero_mul _
    unfold ev at h0
    rw [hs, ← h2, this] at h0
    exact absurd h0 (by decide)
  rw [hs] at h1
  unfold fsqrt Format.sqrt
  rw [h1]
  simp only [Datum.root, if_neg hm, if_true, Option.map_none, orNan]
theorem fsqrt_zero {k : FloatKind} {x : Nat} (hx : fin k x = true) (h0 : ev k x = 0) : fsqrt k x = k.format.word (sg k x) 0 := by
  obtain ⟨m, i, h1, h2⟩ := read_fin hx
  have nn := mg_nonneg k.format (rung k x)
  have hm : m = 0 := by
    have : (m : Rat) * pw i = 0 := by
      rw [h2]
      unfold ev at h0
      cases e : sg k x <;> rw [e] at h0 <;> simp only [sgd, cond_true, cond_false] at h0 <;> grind
    rcases Rat.mul_eq_zero.1 this with h | h
    · exact_mod_cast h
    · have := pw_pos i; grind
  subst hm
  unfold fsqrt Format.sqrt
  rw [h1]
  simp only [Datum.root, if_true, Option.map_some, orNan, Format.write, Format.nearest]
def rootN (x : Nat) : Nat := narrow (fsqrt .f64 (widen x))
theorem pw64_rung : ∃ t, t < infOf .f64 ∧ mg FloatKind.f64.format t = pw 64 := by
  obtain ⟨t, ht⟩ := rep_rung FloatKind.f64.format 1138 1 (by decide)
  have e : ((1 : Nat) : Rat) * pw (FloatKind.f64.format.leastPlace + (1138 : Nat)) = pw 64 := Rat.one_mul _
  rw [e] at ht
  refine ⟨t, lt_of_mg FloatKind.f64.format ?_, ht⟩
  rw [ht, mg_inf]
  show pw 64 < pw 1024
  have h1 := pw_succ 64
  have h2 := pw_pos 64
  have h3 : pw (64 + 1) ≤ pw 1024 := pw_le (by omega)
  grind
theorem root_fin {x : Nat} {q : Rat} (h : Ex .f32 x q) (h0 : 0 < q) : ∃ r, Ex .f64 (fsqrt .f64 (widen x)) (mg FloatKind.f64.format r) ∧ fsqrt .f64 (widen x) = FloatKind.f64.format.word false r ∧ SNear FloatKind.f64.format q r ∧ Rnd .f32 (mg FloatKind.f64.format r) (rootN x) ∧ ovf (fsqrt .f64 (widen x)) = false ∧ fin .f32 (rootN x) = true := by
  have W := widen_ex h
  obtain ⟨r, h1, h2⟩ := fsqrt_pos W.f (by rw [W.e]; exact h0)
  rw [W.e] at h2
  obtain ⟨t, t1, t2⟩ := pw64_rung
  have hq : q < pw 128 := by
    have a := mg_lt FloatKind.f32.format (fin_iff.1 h.f)
    have : mg FloatKind.f32.format (infOf .f32) = pw 128 := mg_inf .f32
    rw [this] at a
    have e := h.e
    unfold ev at e
    have nn := mg_nonneg FloatKind.f32.format (rung .f32 x)
    cases s : sg .f32 x <;> rw [s] at e <;> simp only [sgd, cond_true, cond_false] at e <;> grind
  have hr : r ≤ t := h2.hi t (by rw [t2, pw_sq]; show q ≤ pw 128; grind)
  have w := word_sg (k := .f64) (s := false) (r := r) (by omega)
  have E : Ex .f64 (fsqrt .f64 (widen x)) (mg FloatKind.f64.format r) := by
    rw [h1]
    refine ⟨fin_iff.2 (by rw [w.2.1]; omega), w.2.2, ?_⟩
    rw [ev_word (by omega)]; rfl
  have N := narrow_rnd E
  have hf : fin .f32 (rootN x) = true := by
    have r64 : Rep .f32 (pw 64) := by
      have := rep_nat (k := .f32) (n := 1) (e := 64) (by decide) (by decide) (by
        rw [mg_inf]
        show ((1 : Nat) : Rat) * pw 64 < pw 128
        have h1 := pw_succ 64
        have h2 := pw_pos 64
        have h3 : pw (64 + 1) ≤ pw 128 := pw_le (by omega)
        have : ((1 : Nat) : Rat) = 1 := rfl
        grind)
      have e : ((1 : Nat) : Rat) * pw 64 = pw 64 := Rat.one_mul _
      rwa [e] at this
    obtain ⟨w64, f1, f2, f3⟩ := r64
    have le : ev .f32 (rootN x) ≤ ev .f32 w64 := N.le (fin_nan f1) f2 (by rw [f3, ← t2]; exact mg_le _ hr)
    have ge : ev .f32 0 ≤ ev .f32 (rootN x) := N.ge (by decide) (by decide) (by rw [(ev_zero (by decide)).2 (.inl rfl)]; exact mg_nonneg _ _)
    have p1 := ev_le_iff.1 le
    have p2 := ev_le_iff.1 ge
    have p3 := (fin_pos (fin_nan f1)).1 f1
    have p4 : pos .f32 0 = 0 := by decide +kernel
    exact (fin_pos N.nan).2 (by show _ < pos .f32 (rootN x) ∧ pos .f32 (rootN x) < _; omega)
  exact ⟨r, E, h1, h2, N, ovf_false E hf, hf⟩
theorem ovf_qnan : ovf (qnan .f64) = false := by decide +kernel
theorem root_ovf {x : Nat} (hl : x < 2 * signOf .f32) (hc : canon .f32 x = x) : ovf (fsqrt .f64 (widen x)) = false := by
  cases hn : nan .f32 x with
  | true =>
    rw [canon_nan hn] at hc
    subst hc
    decide +kernel
  | false =>
    by_cases hf : fin .f32 x = true
    · have X : Ex .f32 x (ev .f32 x) := ⟨hf, hl, rfl⟩
      have W := widen_ex X
      by_cases h1 : 0 < ev .f32 x
      · exact (root_fin X h1).choose_spec.2.2.2.2.1
      · by_cases h2 : ev .f32 x < 0
        · rw [fsqrt_neg W.f (by rw [W.e]; exact h2)]; exact ovf_qnan
        · have h3 : ev .f32 x = 0 := by grind
          rw [fsqrt_zero W.f (by rw [W.e]; exact h3)]
          cases sg .f64 (widen x) <;> decide +kernel
    · have hr := nan_false.1 hn
      have hri : rung .f32 x = infOf .f32 := by
        have : ¬ rung .f32 x < infOf .f32 := fun c => hf (fin_iff.2 c)
        omega
      rcases x_cases hl with ⟨_, b⟩ | ⟨_, b⟩
      · rw [hri] at b; subst b; decide +kernel
      · rw [hri] at b; subst b; decide +kernel

theorem root_ex {x : Nat} {q : Rat} (h : Ex .f32 x q) (h0 : 0 ≤ q) : fin .f32 (rootN x) = true ∧ rootN x < 2 * signOf .f32 ∧ 0 ≤ ev .f32 (rootN x) := by
  by_cases h1 : 0 < q
  · obtain ⟨r, _, _, _, N, _, f⟩ := root_fin h h1
    refine ⟨f, N.lt2, ?_⟩
    have := N.ge (w := 0) (by decide) (by decide) (by rw [(ev_zero (by decide)).2 (.inl rfl)]; exact mg_nonneg _ _)
    rwa [(ev_zero (by decide)).2 (.inl rfl)] at this
  · have h2 : ev .f32 x = 0 := by rw [h.e]; grind
    have z : ∀ b, b = 0 ∨ b = 2147483648 → fin .f32 (rootN b) = true ∧ rootN b < 2 * signOf .f32 ∧ (rootN b = 0 ∨ rootN b = 2147483648) := by
      rintro b (rfl | rfl) <;> decide +kernel
    obtain ⟨a1, a2, a3⟩ := z x ((ev_zero h.l).1 h2)
    refine ⟨a1, a2, ?_⟩
    rw [(ev_zero a2).2 a3]
    grind
theorem root_mono {x y : Nat} {p q : Rat} (hx : Ex .f32 x p) (hy : Ex .f32 y q) (h0 : 0 ≤ p) (h : p ≤ q) : ev .f32 (rootN x) ≤ ev .f32 (rootN y) := by
  by_cases h1 : 0 < p
  · obtain ⟨r, _, _, n1, N1, _, _⟩ := root_fin hx h1
    obtain ⟨s, _, _, n2, N2, _, _⟩ := root_fin hy (by grind)
    exact N1.mono N2 (mg_le _ (n1.mono n2 h))
  · have h2 : ev .f32 x = 0 := by rw [hx.e]; grind
    have z : ∀ b, b = 0 ∨ b = 2147483648 → rootN b < 2 * signOf .f32 ∧ (rootN b = 0 ∨ rootN b = 2147483648) := by
      rintro b (rfl | rfl) <;> decide +kernel
    obtain ⟨a2, a3⟩ := z x ((ev_zero hx.l).1 h2)
    rw [(ev_zero a2).2 a3]
    exact (root_ex hy (by grind)).2.2

end Fl
end Go.Ev

/- Floats as rational numbers: numbers of few binary digits, which are exact. -/
set_option linter.unusedVariables false
set_option linter.unusedSimpArgs false
namespace Go.Ev
open Ieee

namespace Fl
def Gr (s b : Nat) (q : Rat) : Prop := ∃ n : Int, q * ((2 ^ s : Nat) : Rat) = n ∧ n.natAbs ≤ b
theorem Gr.le {s b c : Nat} {q : Rat} (h : Gr s b q) (hb : b ≤ c) : Gr s c q := by
  obtain ⟨n, h1, h2⟩ := h
  exact ⟨n, h1, by omega⟩
theorem Gr.up {s b : Nat} {q : Rat} (h : Gr s b q) (t : Nat) : Gr (s + t) (b * 2 ^ t) q := by
  obtain ⟨n, h1, h2⟩ := h
  refine ⟨n * ((2 ^ t : Nat) : Int), ?_, ?_⟩
  · rw [Nat.pow_add, Rat.natCast_mul, Rat.intCast_mul, ← h1, Rat.mul_assoc]; rfl
  · rw [Int.natAbs_mul, Int.natAbs_natCast]
    exact Nat.mul_le_mul_right _ h2
theorem Gr.add {s b c : Nat} {p q : Rat} (h : Gr s b p) (h' : Gr s c q) : Gr s (b + c) (p + q) := by
  obtain ⟨n, h1, h2⟩ := h
  obtain ⟨m, h3, h4⟩ := h'
  exact ⟨n + m, by rw [Rat.add_mul, h1, h3, Rat.intCast_add], by omega⟩
theorem Gr.sub {s b c : Nat} {p q : Rat} (h : Gr s b p) (h' : Gr s c q) : Gr s (b + c) (p - q) := by
  obtain ⟨n, h1, h2⟩ := h
  obtain ⟨m, h3, h4⟩ := h'
  exact ⟨n - m, by rw [Rat.intCast_sub, ← h1, ← h3]; grind, by omega⟩
theorem Gr.neg {s b : Nat} {p : Rat} (h : Gr s b p) : Gr s b (-p) := by
  obtain ⟨n, h1, h2⟩ := h
  exact ⟨-n, by rw [Rat.intCast_neg, ← h1, Rat.neg_mul], by omega⟩
theorem Gr.mul {s t b c : Nat} {p q : Rat} (h : Gr s b p) (h' : Gr t c q) : Gr (s + t) (b * c) (p * q) := by
  obtain ⟨n, h1, h2⟩ := h
  obtain ⟨m, h3, h4⟩ := h'
  refine ⟨n * m, ?_, ?_⟩
  · rw [Nat.pow_add, Rat.natCast_mul, Rat.intCast_mul, ← h1, ← h3]; grind
  · rw [Int.natAbs_mul]
    exact Nat.mul_le_mul h2 h4
theorem Gr.int (n : Int) {b : Nat} (h : n.natAbs ≤ b) : Gr 0 b (n : Rat) := ⟨n, by rw [Nat.pow_zero]; exact Rat.mul_one _, h⟩
theorem Gr.zero (s b : Nat) : Gr s b 0 := ⟨0, by rw [Rat.zero_mul]; rfl, by omega⟩
theorem Gr.rep32 {s b : Nat} {q : Rat} (h : Gr s b q) (hb : b ≤ 16777216) (hs : s ≤ 149) : Rep .f32 q := by
  obtain ⟨n, h1, h2⟩ := h
  exact Fl.rep32 n s h1 (by omega) hs
structure Q (s b : Nat) (x : Nat) (q : Rat) : Prop where
  x : Ex .f32 x q
  g : Gr s b q
section
variable {s t b c x y : Nat} {p q : Rat}
theorem Q.le (h : Q s b x q) (hb : b ≤ c) : Q s c x q := ⟨h.x, h.g.le hb⟩
theorem Q.up (h : Q s b x q) (t : Nat) : Q (s + t) (b * 2 ^ t) x q := ⟨h.x, h.g.up t⟩
theorem Q.as (h : Q s b x p) (e : p = q) : Q s b x q := e ▸ h
theorem Q.add (h : Q s b x p) (h' : Q s c y q) (hb : b + c ≤ 16777216) (hs : s ≤ 149) : Q s (b + c) (fadd .f32 x y) (p + q) :=
  ⟨h.x.add h'.x ((h.g.add h'.g).rep32 hb hs), h.g.add h'.g⟩
theorem Q.sub (h : Q s b x p) (h' : Q s c y q) (hb : b + c ≤ 16777216) (hs : s ≤ 149) : Q s (b + c) (fsub .f32 x y) (p - q) :=
  ⟨h.x.sub h'.x ((h.g.sub h'.g).rep32 hb hs), h.g.sub h'.g⟩
theorem Q.mul (h : Q s b x p) (h' : Q t c y q) (hb : b * c ≤ 16777216) (hs : s + t ≤ 149) : Q (s + t) (b * c) (fmul .f32 x y) (p * q) :=
  ⟨h.x.mul h'.x ((h.g.mul h'.g).rep32 hb hs), h.g.mul h'.g⟩
theorem Q.neg (h : Q s b x p) : Q s b (fneg .f32 x) (-p) := ⟨h.x.neg, h.g.neg⟩
end

theorem ev_lit {k : FloatKind} {x : Nat} (s : Bool) (p j : Nat) (hj : j ≤ 2 * k.format.binade) (h : p = 0 ∨ k.format.binade ≤ j) (hx : x = k.format.word s (p * k.format.binade + j)) (hr : p * k.format.binade + j ≤ infOf k) :
    ev k x = sgd s ((j : Rat) * pw (k.format.leastPlace + p)) := by
  rw [hx, ev_word hr, mg_at k.format p j hj h]
theorem q_zero : Q 0 0 0 0 := ⟨⟨by decide, by decide, (ev_zero (by decide)).2 (.inl rfl)⟩, Gr.zero 0 0⟩
theorem nearest_lit {x : Nat} (n : Int) (h : n.natAbs ≤ 16777216) (e : FloatKind.f32.nearest n = x) : Q 0 n.natAbs x (n : Rat) := by
  subst e
  exact ⟨ex_int32 h, Gr.int n (Nat.le_refl _)⟩
theorem q_one : Q 0 1 1065353216 1 := (nearest_lit 1 (by decide) (by decide +kernel)).as rfl
theorem q_two : Q 0 2 1073741824 2 := (nearest_lit 2 (by decide) (by decide +kernel)).as rfl
theorem q_four : Q 0 4 1082130432 4 := (nearest_lit 4 (by decide) (by decide +kernel)).as rfl
theorem q_neg1 : Q 0 1 3212836864 (-1) := ((nearest_lit (x := 3212836864) (-1) (by decide) (by decide +kernel)).le (c := 1) (by decide)).as rfl

theorem q_div {n : Int} {b : Nat} (s y : Nat) (hn : n.natAbs ≤ b) (hb : b ≤ 16777216) (hs : s ≤ 100) (hy : Ex .f32 y ((2 ^ s : Nat) : Rat)) :
    Q s b (fdiv .f32 (FloatKind.f32.nearest n) y) ((n : Rat) / ((2 ^ s : Nat) : Rat)) := by
  have h0 : (((2 ^ s : Nat) : Rat)) ≠ 0 := by
    have : (0 : Rat) < ((2 ^ s : Nat) : Rat) := Rat.natCast_pos.2 (Nat.two_pow_pos _)
    grind
  have g : Gr s b ((n : Rat) / ((2 ^ s : Nat) : Rat)) := ⟨n, Rat.div_mul_cancel h0, hn⟩
  exact ⟨(ex_int32 (by omega)).div hy h0 (g.rep32 hb (by omega)), g⟩

end Fl
end Go.Ev

/- Floats as rational numbers: sums of lists. -/
set_option linter.unusedVariables false
set_option linter.unusedSimpArgs false
namespace Go.Ev
open Ieee

namespace Fl
def rsum : List Rat → Rat
  | [] => 0
  | q :: qs => q + rsum qs
inductive QL (s b : Nat) : List Nat → List Rat → Prop
  | nil : QL s b [] []
  | cons {x : Nat} {q : Rat} {xs : List Nat} {qs : List Rat} : Q s b x q → QL s b xs qs → QL s b (x :: xs) (q :: qs)
theorem QL.length {s b : Nat} {xs : List Nat} {qs : List Rat} (h : QL s b xs qs) : xs.length = qs.length := by
  induction h with
  | nil => rfl
  | cons _ _ ih => simp [ih]
theorem QL.take {s b : Nat} {xs : List Nat} {qs : List Rat} (h : QL s b xs qs) (n : Nat) : QL s b (xs.take n) (qs.take n) := by
  induction h generalizing n with
  | nil => simp; exact .nil
  | cons h1 _ ih =>
    cases n with
    | zero => exact .nil
    | succ n => exact .cons h1 (ih n)
theorem QL.drop {s b : Nat} {xs : List Nat} {qs : List Rat} (h : QL s b xs qs) (n : Nat) : QL s b (xs.drop n) (qs.drop n) := by
  induction h generalizing n with
  | nil => simp; exact .nil
  | cons h1 h2 ih =>
    cases n with
    | zero => exact .cons h1 h2
    | succ n => exact ih n
theorem QL.snoc {s b : Nat} {xs : List Nat} {qs : List Rat} {x : Nat} {q : Rat} (h : QL s b xs qs) (h' : Q s b x q) : QL s b (xs ++ [x]) (qs ++ [q]) := by
  induction h with
  | nil => exact .cons h' .nil
  | cons h1 _ ih => exact .cons h1 ih

def fsumL (xs : List Nat) : Nat := xs.foldl (fun a x => fadd .f32 a x) 0
theorem QL.foldl {s b : Nat} {xs : List Nat} {qs : List Rat} (h : QL s b xs qs) : ∀ {c a : Nat} {p : Rat}, Q s c a p → c + b * xs.length ≤ 16777216 → s ≤ 149 → Q s (c + b * xs.length) (xs.foldl (fun a x => fadd .f32 a x) a) (p + rsum qs) := by
  induction h with
  | nil =>
    intro c a p ha _ _
    exact (ha.le (by omega)).as (Rat.add_zero p).symm
  | @cons x q xs qs h1 _ ih =>
    intro c a p ha hb hs
    have e : b * (x :: xs).length = b + b * xs.length := by rw [List.length_cons, Nat.mul_add]; omega
    rw [e] at hb ⊢
    have := ih (ha.add h1 (by omega) hs) (by omega) hs
    refine (this.le (by omega)).as ?_
    simp only [rsum]
    grind
theorem QL.sum {b : Nat} {xs : List Nat} {qs : List Rat} (h : QL 0 b xs qs) (hb : b * xs.length ≤ 16777216) : Q 0 (b * xs.length) (fsumL xs) (rsum qs) :=
  ((h.foldl (q_zero) (by omega) (by omega)).le (by omega)).as (Rat.zero_add _)

end Fl
end Go.Ev

/- Functions of 64-bit floats that Go's library leaves without a body: their bits, and wholes. -/
set_option linter.unusedVariables false
set_option linter.unusedSimpArgs false
namespace Go.Ev

def sF64bits : Sm := fun args hs K =>
  match args with
  | [.float .f64 x] => cond (nan .f64 x) (K .undef hs) (K (.int .u64 x) hs)
  | _ => False

theorem ok_F64bits {P : Program} {k : FuncId} {fn : Func} (hf : P.funcs[k]? = some fn) (hname : (fn.name == "runtime.NumGoroutine") = false)
    (hb : fn.body.isNone = true) (hn : Extern.findNext fn = none) (he : Extern.find fn = some Extern.MathFloatBits.float64bits) : FnOk P k sF64bits := by
  refine fnOk_ext hf hname hb hn he ?_
  intro args K h
  unfold sF64bits at h
  split at h
  · rename_i x
    cases hx : nan .f64 x with
    | true =>
      simp only [hx, cond_true] at h
      refine ⟨.undef, h, fun K' h' => by simp only [sF64bits, hx, cond_true]; exact h', ?_⟩
      intro w M cargs hv
      cases hv with
      | cons a b =>
        cases b
        cases a with
        | float _ _ b' h1 h2 => exact ⟨_, w, rfl, Drawn.refl w, .undef _⟩
    | false =>
      simp only [hx, cond_false] at h
      refine ⟨.int .u64 x, h, fun K' h' => by simp only [sF64bits, hx, cond_false]; exact h', ?_⟩
      intro w M cargs hv
      cases hv with
      | cons a b =>
        cases b
        cases a with
        | float _ _ b' h1 h2 =>
          have hb' : nan .f64 b' = false := by rw [h2, nan_canon] at hx; exact hx
          have e : x = b' := by rw [h2, canon_not hb']
          subst e
          refine ⟨.int .u64 x, w, rfl, Drawn.refl w, .int _ _ ?_⟩
          have e1 : IntKind.u64.min = 0 := rfl
          have e2 : IntKind.u64.max = 18446744073709551615 := rfl
          have e3 : 2 * signOf .f64 = 18446744073709551616 := rfl
          omega
  · exact h.elim

def sF64from : Sm := fun args hs K =>
  match args with
  | [.int .u64 n] => K (.float .f64 (canon .f64 n.toNat)) hs
  | _ => False

theorem ok_F64from {P : Program} {k : FuncId} {fn : Func} (hf : P.funcs[k]? = some fn) (hname : (fn.name == "runtime.NumGoroutine") = false)
    (hb : fn.body.isNone = true) (hn : Extern.findNext fn = none) (he : Extern.find fn = some Extern.MathFloatBits.float64frombits) : FnOk P k sF64from := by
  refine fnOk_ext hf hname hb hn he ?_
  intro args K h
  unfold sF64from at h
  split at h
  · rename_i n
    refine ⟨_, h, fun K' h' => h', ?_⟩
    intro w M cargs hv
    cases hv with
    | cons a b =>
      cases b
      cases a with
      | int _ _ hr =>
        have e1 : IntKind.u64.min = 0 := rfl
        have e2 : IntKind.u64.max = 18446744073709551615 := rfl
        have e3 : 2 * signOf .f64 = 18446744073709551616 := rfl
        exact ⟨_, w, rfl, Drawn.refl w, .float _ _ n.toNat (by omega) rfl⟩
  · exact h.elim

def fwhole (way : Ieee.Toward) (x : Nat) : Nat := bif nan .f64 x then qnan .f64 else FloatKind.f64.encode ((FloatKind.f64.decode x).integral way)
def sWhole (way : Ieee.Toward) : Sm := fun args hs K =>
  match args with
  | [.float .f64 x] => cond (nan .f64 x) False (K (.float .f64 (fwhole way x)) hs)
  | _ => False

theorem ok_whole {P : Program} {k : FuncId} {fn : Func} (name : String) (way : Ieee.Toward) (hf : P.funcs[k]? = some fn) (hname : (fn.name == "runtime.NumGoroutine") = false)
    (hb : fn.body.isNone = true) (hn : Extern.findNext fn = none) (he : Extern.find fn = some (Extern.MathFloor.toIntegral name way)) : FnOk P k (sWhole way) := by
  refine fnOk_ext hf hname hb hn he ?_
  intro args K h
  unfold sWhole at h
  split at h
  · rename_i x
    cases hx : nan .f64 x with
    | true => simp only [hx, cond_true] at h
    | false =>
    simp only [hx, cond_false] at h
    refine ⟨_, h, fun K' h' => by simp only [sWhole, hx, cond_false]; exact h', ?_⟩
    intro w M cargs hv
    cases hv with
    | cons a b =>
      cases b
      cases a with
      | float _ _ b' h1 h2 =>
        have hb' : nan .f64 b' = false := by rw [h2, nan_canon] at hx; exact hx
        have e : x = b' := by rw [h2, canon_not hb']
        subst e
        have hd := read_not_nan hx
        have hpl : plainD (((FloatKind.f64.decode x).integral way)) = true := by
          unfold FloatKind.decode
          cases e : FloatKind.f64.format.read x with
          | nan s t => exact absurd e (hd s t)
          | infinity s => rfl
          | number s m p => rfl
        refine ⟨.float .f64 (FloatKind.f64.encode ((FloatKind.f64.decode x).integral way)), w, ?_, Drawn.refl w, ?_⟩
        · have hT : ∀ d, FloatKind.f64.decode x = d → plainD d = true → (Extern.MathFloor.toIntegral name way #[.float .f64 x]) = pure (.float .f64 (FloatKind.f64.encode (d.integral way))) := by
            intro d e hp
            have h0 : (Extern.MathFloor.toIntegral name way #[.float .f64 x]) = (match FloatKind.f64.decode x with
              | .nan s t => (if FloatKind.f64.format.quiet t = t then pure (.float .f64 x) else do
                let kept ← choose (.extern "math.Floor,Ceil,Trunc,RoundToEven.signallingNaN kept" 2)
                pure (.float .f64 (if kept == 1 then x else FloatKind.f64.encode (.nan s (FloatKind.f64.format.quiet t)))))
              | d => pure (.float .f64 (FloatKind.f64.encode (d.integral way)))) := rfl
            rw [h0, e]
            cases d with
            | nan s t => cases hp
            | infinity s => rfl
            | number s m p => rfl
          show (Extern.MathFloor.toIntegral name way #[.float .f64 x]).run P w = _
          rw [hT _ rfl (by
            unfold FloatKind.decode
            cases e : FloatKind.f64.format.read x with
            | nan s t => exact absurd e (hd s t)
            | infinity s => rfl
            | number s m p => rfl)]
          rfl
        · have hn' : nan .f64 (FloatKind.f64.encode ((FloatKind.f64.decode x).integral way)) = false := nan_write hpl
          refine .float _ _ _ ?_ ?_
          · have := FloatKind.f64.format.write_lt ((FloatKind.f64.decode x).integral way)
            rw [← width_eq]
            exact this
          · unfold fwhole
            rw [hx, cond_false, canon_not hn']
  · exact h.elim

end Go.Ev

/- Floats as rational numbers: wholes. -/
set_option linter.unusedVariables false
set_option linter.unusedSimpArgs false
namespace Go.Ev
open Ieee

namespace Fl
theorem div_gap (n d : Nat) : n / 2 ^ min d (n.log2 + 2) = n / 2 ^ d := by
  by_cases h : d ≤ n.log2 + 2
  · rw [Nat.min_eq_left h]
  · rw [Nat.min_eq_right (by omega)]
    have h1 : n < 2 ^ (n.log2 + 1) := Nat.lt_log2_self
    have h2 : 2 ^ (n.log2 + 1) ≤ 2 ^ (n.log2 + 2) := Nat.pow_le_pow_right (by omega) (by omega)
    have h3 : 2 ^ (n.log2 + 1) ≤ 2 ^ d := Nat.pow_le_pow_right (by omega) (by omega)
    rw [Nat.div_eq_of_lt (by omega), Nat.div_eq_of_lt (by omega)]
theorem cut_zero (s : Bool) (n d : Nat) : Toward.zero.cut s n d = n / 2 ^ d := by
  unfold Toward.cut
  simp only [Nat.shiftLeft_eq, Nat.one_mul, Bool.toNat_false, Nat.add_zero]
  exact div_gap n d
theorem whole_part (m : Nat) (e : Int) : ((m <<< e.toNat / 2 ^ (-e).toNat : Nat) : Rat) ≤ (m : Rat) * pw e ∧ (m : Rat) * pw e < ((m <<< e.toNat / 2 ^ (-e).toNat : Nat) : Rat) + 1 := by
  have hx : (m : Rat) * pw e * ((2 ^ (-e).toNat : Nat) : Rat) = ((m <<< e.toNat : Nat) : Rat) := by
    rw [Nat.shiftLeft_eq, Rat.natCast_mul, ← pw_nat, ← pw_nat, Rat.mul_assoc, ← pw_add]
    congr 2
    omega
  have g0 : (0 : Rat) < ((2 ^ (-e).toNat : Nat) : Rat) := Rat.natCast_pos.2 (Nat.two_pow_pos _)
  have d1 := Nat.div_add_mod (m <<< e.toNat) (2 ^ (-e).toNat)
  have d2 := Nat.mod_lt (m <<< e.toNat) (Nat.two_pow_pos (-e).toNat)
  generalize m <<< e.toNat = n at *
  generalize 2 ^ (-e).toNat = g at *
  have d1 := congrArg (fun z : Nat => (z : Rat)) d1
  simp only [Rat.natCast_add, Rat.natCast_mul] at d1
  have d2 := Rat.natCast_lt_natCast.2 d2
  have d3 : (0 : Rat) ≤ ((n % g : Nat) : Rat) := Rat.natCast_nonneg
  constructor
  · refine Rat.le_of_mul_le_mul_right ?_ g0
    rw [hx]; grind
  · refine Rat.lt_of_mul_lt_mul_right ?_ (Rat.le_of_lt g0)
    rw [hx]; grind
end Fl
end Go.Ev

/- Floats as rational numbers: what a sine computes, where nothing is too great. -/
set_option linter.unusedVariables false
set_option linter.unusedSimpArgs false
set_option maxRecDepth 20000
namespace Go.Ev
open Ieee
namespace Fl
def sinP (u : Nat) : Nat → Nat
  | 0 => 4607182418800017408
  | n + 1 => fsub .f64 4607182418800017408 (fdiv .f64 (fmul .f64 u (sinP u n)) (FloatKind.f64.nearest (2 * (8 - (n : Int)) * (2 * (8 - (n : Int)) + 1))))
def sinO (f : Nat) : Nat := fmul .f64 (fmul .f64 f 4618760256179416344) (sinP (fmul .f64 (fmul .f64 f 4618760256179416344) (fmul .f64 f 4618760256179416344)) 8)

def abs64 (x : Nat) : Nat := x % 9223372036854775808
def sine64 (x : Nat) : Nat :=
  (fun f : Nat => (fun h : Nat => (fun h : Nat => bif fge .f64 f 4602678819172646912 then fneg .f64 (sinO h) else sinO h) (bif fgt .f64 h 4598175219545276416 then fsub .f64 4602678819172646912 h else h))
    (bif fge .f64 f 4602678819172646912 then fsub .f64 f 4602678819172646912 else f)) (bif flt .f64 (widen x) 0 then fadd .f64 (widen x) 4607182418800017408 else widen x)
def sineN (x : Nat) : Nat := narrow (sine64 x)
def sinOk (z : Nat) : Bool := fin .f32 z && (flt .f64 (abs64 (widen z)) 4607182418800017408 && !ovf (sine64 z))
theorem abs_sg (x : Nat) : sg .f64 (abs64 x) = false := by
  have : abs64 x < 9223372036854775808 := Nat.mod_lt _ (by decide)
  unfold sg
  rw [show signOf .f64 = 9223372036854775808 from rfl, Nat.div_eq_of_lt this]; rfl
theorem trunc_small {v : Nat} (hf : fin .f64 v = true) (h1 : -1 < ev .f64 v) (h2 : ev .f64 v < 1) : feq .f64 (fwhole .zero v) 0 = true := by
  obtain ⟨m, e, e1, e2⟩ := read_fin hf
  have nn : 0 ≤ (m : Rat) * pw e := Rat.mul_nonneg Rat.natCast_nonneg (Rat.le_of_lt (pw_pos _))
  have hv : ev .f64 v = sgd (sg .f64 v) ((m : Rat) * pw e) := by rw [e2]; rfl
  have hlt : (m : Rat) * pw e < 1 := by
    rw [hv] at h1 h2
    cases s : sg .f64 v <;> rw [s] at h1 h2 <;> simp only [sgd, cond_true, cond_false] at h1 h2 <;> grind
  obtain ⟨p1, p2⟩ := whole_part m e
  unfold fwhole FloatKind.decode FloatKind.encode
  rw [fin_nan hf, cond_false, e1]
  simp only [Datum.integral, Format.write]
  rw [cut_zero]
  have : m <<< e.toNat / 2 ^ (-e).toNat = 0 := by
    generalize m <<< e.toNat / 2 ^ (-e).toNat = n at *
    have : (n : Rat) < ((1 : Nat) : Rat) := by
      have : ((1 : Nat) : Rat) = 1 := rfl
      grind
    have := Rat.natCast_lt_natCast.1 this
    omega
  rw [this]
  cases sg .f64 v <;> decide +kernel
theorem one_ev : ev .f64 4607182418800017408 = 1 := by
  rw [ev_lit (k := .f64) false 1022 4503599627370496 (by decide) (by decide) (by decide) (by decide)]
  show ((4503599627370496 : Nat) : Rat) * pw (-1074 + 1022) = 1
  unfold pw
  decide +kernel
theorem sinOk_trunc {z : Nat} (h : sinOk z = true) (hl : z < 2 * signOf .f32) : feq .f64 (fwhole .zero (widen z)) 0 = true ∧ nan .f64 (widen z) = false ∧ fge .f64 (abs64 (widen z)) 4841369599423283200 = false ∧ fin .f32 z = true ∧ ovf (sine64 z) = false := by
  unfold sinOk at h
  simp only [Bool.and_eq_true, Bool.not_eq_true'] at h
  obtain ⟨h1, h2, h3⟩ := h
  have hx := widen_ex (b := z) (q := ev .f32 z) ⟨h1, hl, rfl⟩
  have hab : abs64 (widen z) = rung .f64 (widen z) := rfl
  have hrr : rung .f64 (abs64 (widen z)) = rung .f64 (widen z) := by rw [hab]; unfold rung; exact Nat.mod_mod _ _
  have hev : ev .f64 (abs64 (widen z)) = mg FloatKind.f64.format (rung .f64 (widen z)) := by unfold ev; rw [abs_sg, hrr]; rfl
  have hfa : fin .f64 (abs64 (widen z)) = true := by rw [fin_iff, hrr]; exact fin_iff.1 hx.f
  rw [flt_ev (fin_nan hfa) (by decide +kernel), decide_eq_true_eq, one_ev, hev] at h2
  have hw : ev .f64 (widen z) = sgd (sg .f64 (widen z)) (mg FloatKind.f64.format (rung .f64 (widen z))) := rfl
  have h0 := mg_nonneg FloatKind.f64.format (rung .f64 (widen z))
  refine ⟨trunc_small hx.f ?_ ?_, hx.nan, ?_, h1, h3⟩
  · rw [hw]; cases sg .f64 (widen z) <;> simp only [sgd, cond_true, cond_false] <;> grind
  · rw [hw]; cases sg .f64 (widen z) <;> simp only [sgd, cond_true, cond_false] <;> grind
  · have hc : flt .f64 4607182418800017408 4841369599423283200 = true := by decide +kernel
    rw [flt_ev (by decide +kernel) (by decide +kernel), decide_eq_true_eq, one_ev] at hc
    rw [fge_ev (fin_nan hfa) (by decide +kernel), decide_eq_false]
    rw [hev]
    exact Rat.not_le.2 (by grind)
end Fl
end Go.Ev

/- Floats as rational numbers: rounding to a whole number. -/
set_option linter.unusedVariables false
set_option linter.unusedSimpArgs false
namespace Go.Ev
open Ieee

namespace Fl
theorem Rep.up64 {q : Rat} (h : Rep .f32 q) : Rep .f64 q := by
  obtain ⟨w, h1, h2, h3⟩ := h
  exact (widen_ex (b := w) (q := q) ⟨h1, h2, h3⟩).rep
theorem far_int {q : Rat} (h : Rep .f32 q) (h0 : 0 ≤ q) (hq : (16777216 : Rat) ≤ q) : ∃ k : Nat, q = (k : Rat) := by
  obtain ⟨w, h1, h2, h3⟩ := h
  obtain ⟨m, e, e1, e2, e3, e4⟩ := read_fin2 h1
  have hv : sgd (sg .f32 w) ((m : Rat) * pw e) = q := by rw [e2]; exact h3
  have nn : 0 ≤ (m : Rat) * pw e := Rat.mul_nonneg Rat.natCast_nonneg (Rat.le_of_lt (pw_pos _))
  have hq' : (m : Rat) * pw e = q := by
    cases s : sg .f32 w <;> rw [s] at hv <;> simp only [sgd, cond_true, cond_false] at hv <;> grind
  by_cases he : 0 ≤ e
  · obtain ⟨j, rfl⟩ : ∃ j : Nat, e = (j : Int) := ⟨e.toNat, by omega⟩
    exact ⟨m * 2 ^ j, by rw [← hq', pw_nat, Rat.natCast_mul]⟩
  · exfalso
    have hm : m ≤ 16777215 := by have : 2 * FloatKind.f32.format.binade = 16777216 := by decide
                                 omega
    have hm' : (m : Rat) ≤ 16777215 := by
      have := Rat.natCast_le_natCast.2 hm
      exact this
    have hp : pw e ≤ 1 := by rw [← pw_zero]; exact pw_le (by omega)
    have hp0 := pw_pos e
    have : (m : Rat) * pw e ≤ (m : Rat) * 1 := Rat.mul_le_mul_of_nonneg_left hp Rat.natCast_nonneg
    grind
theorem even_ex {v : Nat} {q : Rat} (h : Ex .f64 v q) (hr : Rep .f32 q) : ∃ n : Int, Ex .f64 (fwhole .even v) (n : Rat) ∧ Rep .f32 (n : Rat) ∧ 2 * (n : Rat) ≤ 2 * q + 1 ∧ 2 * q ≤ 2 * (n : Rat) + 1 := by
  obtain ⟨m, e, e1, e2, _⟩ := read_fin2 h.f
  have hv : sgd (sg .f64 v) ((m : Rat) * pw e) = q := by rw [e2]; exact h.e
  have nn : 0 ≤ (m : Rat) * pw e := Rat.mul_nonneg Rat.natCast_nonneg (Rat.le_of_lt (pw_pos _))
  have hx : (m : Rat) * pw e * ((2 ^ (-e).toNat : Nat) : Rat) = ((m <<< e.toNat : Nat) : Rat) := by
    rw [Nat.shiftLeft_eq, Rat.natCast_mul, ← pw_nat, ← pw_nat, Rat.mul_assoc, ← pw_add]
    congr 2
    omega
  obtain ⟨c1, c2, _⟩ := cut_spec (sg .f64 v) (m <<< e.toNat) (-e).toNat
  unfold fwhole FloatKind.decode FloatKind.encode
  rw [h.nan, cond_false, e1]
  simp only [Datum.integral, Format.write]
  generalize Toward.even.cut (sg .f64 v) (m <<< e.toNat) (-e).toNat = c at *
  have g0 : 0 < 2 ^ (-e).toNat := Nat.two_pow_pos _
  have ha : Rep .f32 ((m : Rat) * pw e) := by
    cases s : sg .f64 v <;> rw [s] at hv <;> simp only [sgd, cond_true, cond_false] at hv
    · rw [hv]; exact hr
    · rw [show (m : Rat) * pw e = -q by grind]; exact hr.neg
  generalize m <<< e.toNat = N at *
  generalize 2 ^ (-e).toNat = g at *
  generalize (m : Rat) * pw e = a at *
  have g0' : (0 : Rat) < (g : Rat) := Rat.natCast_pos.2 g0
  have d1 : 2 * a ≤ 2 * (c : Rat) + 1 := by
    have := Rat.natCast_le_natCast.2 c1
    simp only [Rat.natCast_mul, Rat.natCast_add] at this
    refine Rat.le_of_mul_le_mul_right (c := (g : Rat)) ?_ g0'
    have two : ((2 : Nat) : Rat) = 2 := rfl
    have one : ((1 : Nat) : Rat) = 1 := rfl
    rw [two, one] at this
    grind
  have d2 : 2 * (c : Rat) ≤ 2 * a + 1 := by
    have := Rat.natCast_le_natCast.2 c2
    simp only [Rat.natCast_mul, Rat.natCast_add] at this
    refine Rat.le_of_mul_le_mul_right (c := (g : Rat)) ?_ g0'
    have two : ((2 : Nat) : Rat) = 2 := rfl
    rw [two] at this
    grind
  have hc : Rep .f32 (c : Rat) := by
    by_cases hb : a < 16777216
    · have : (c : Rat) < ((16777217 : Nat) : Rat) := by
        have : ((16777217 : Nat) : Rat) = 16777217 := rfl
        grind
      have := Rat.natCast_lt_natCast.1 this
      exact rep32 (c : Int) 0 (by rw [Nat.pow_zero]; exact Rat.mul_one _) (by omega) (by omega)
    · obtain ⟨k, hk⟩ := far_int ha nn (Rat.not_lt.1 hb)
      have : c = k := by
        rw [hk] at d1 d2
        have l1 : ((2 * k : Nat) : Rat) ≤ ((2 * c + 1 : Nat) : Rat) := by
          rw [Rat.natCast_mul, Rat.natCast_add, Rat.natCast_mul]; exact d1
        have l2 : ((2 * c : Nat) : Rat) ≤ ((2 * k + 1 : Nat) : Rat) := by
          rw [Rat.natCast_mul, Rat.natCast_add, Rat.natCast_mul]; exact d2
        have l1 := Rat.natCast_le_natCast.1 l1
        have l2 := Rat.natCast_le_natCast.1 l2
        omega
      rw [this, ← hk]; exact ha
  cases s : sg .f64 v with
  | false =>
    rw [s] at hv
    simp only [sgd, cond_false] at hv
    refine ⟨(c : Int), ?_, hc, by rw [← hv]; exact d2, by rw [← hv]; exact d1⟩
    have hs : sgd false ((c : Rat) * pw 0) = ((c : Int) : Rat) := by rw [pw_zero, Rat.mul_one]; rfl
    exact (Rnd.of hs).ex hc.up64
  | true =>
    rw [s] at hv
    simp only [sgd, cond_true] at hv
    have en : ((-(c : Int) : Int) : Rat) = -(c : Rat) := Rat.intCast_neg _
    refine ⟨-(c : Int), ?_, by rw [en]; exact hc.neg, by rw [en, ← hv]; grind, by rw [en, ← hv]; grind⟩
    have hs : sgd true ((c : Rat) * pw 0) = ((-(c : Int) : Int) : Rat) := by rw [pw_zero, Rat.mul_one, en]; rfl
    exact (Rnd.of hs).ex (by rw [en]; exact hc.neg.up64)
theorem even_ovf {x : Nat} (hl : x < 2 * signOf .f32) (hc : canon .f32 x = x) : ovf (fwhole .even (widen x)) = false := by
  cases hn : nan .f32 x with
  | true =>
    rw [canon_nan hn] at hc
    rw [← hc]
    decide +kernel
  | false =>
    cases hf : fin .f32 x with
    | true =>
      have hx : Ex .f32 x (ev .f32 x) := ⟨hf, hl, rfl⟩
      obtain ⟨n, h1, h2, _⟩ := even_ex (widen_ex hx) hx.rep
      exact (narrow_ex h1 h2).2
    | false =>
      have : x = 2139095040 ∨ x = 4286578688 := by
        have h1 : nan .f32 x = false := hn
        have h3 : ¬ rung .f32 x < infOf .f32 := by rw [← fin_iff, hf]; exact Bool.noConfusion
        have h2 := x_cases hl
        rw [nan_false] at h1
        have e1 : infOf .f32 = 2139095040 := rfl
        have e2 : signOf .f32 = 2147483648 := rfl
        have e3 : rung .f32 x = x % 2147483648 := rfl
        rw [e1] at h1 h3
        rw [e2] at h2
        omega
      rcases this with rfl | rfl <;> decide +kernel
end Fl
end Go.Ev

/- math.RoundToEven, for all floats. -/
set_option linter.unusedVariables false
set_option linter.unusedSimpArgs false
namespace Go.Ev

def sEven : Sm := fun args hs K =>
  match args with
  | [.float .f64 x] => K (.float .f64 (fwhole .even x)) hs
  | _ => False

theorem quiet_pos (t : Nat) : 0 < (FloatKind.f64.format.quiet t) % FloatKind.f64.format.binade := by
  have e : (FloatKind.f64.format.quiet t) % FloatKind.f64.format.binade = (t ||| 2 ^ 51) % 2 ^ 52 := rfl
  rw [e]
  have h : ((t ||| 2 ^ 51) % 2 ^ 52).testBit 51 = true := by
    rw [Nat.testBit_mod_two_pow, Nat.testBit_or, Nat.testBit_two_pow_self]
    simp
  rcases Nat.eq_zero_or_pos ((t ||| 2 ^ 51) % 2 ^ 52) with h0 | h0
  · rw [h0] at h; simp at h
  · exact h0
theorem enc_nan (s : Bool) (t : Nat) : nan .f64 (FloatKind.f64.encode (.nan s (FloatKind.f64.format.quiet t))) = true ∧ FloatKind.f64.encode (.nan s (FloatKind.f64.format.quiet t)) < 2 * signOf .f64 := by
  have h := quiet_pos t
  have h2 : (FloatKind.f64.format.quiet t) % FloatKind.f64.format.binade < 4503599627370496 := Nat.mod_lt _ (by decide)
  have e : FloatKind.f64.encode (.nan s (FloatKind.f64.format.quiet t)) = if s then 9223372036854775808 + (9218868437227405312 + (FloatKind.f64.format.quiet t) % FloatKind.f64.format.binade) else (9218868437227405312 + (FloatKind.f64.format.quiet t) % FloatKind.f64.format.binade) := rfl
  have e2 : 2 * signOf .f64 = 18446744073709551616 := rfl
  generalize (FloatKind.f64.format.quiet t) % FloatKind.f64.format.binade = r at *
  rw [nan_iff, e, e2]
  show 9218868437227405312 < _ % 9223372036854775808 ∧ _
  split <;> omega
theorem choose_ext (P : Program) (what : String) (w : World) : ∃ r w', (choose (.extern what 2)).run P w = .ok r w' ∧ Drawn w w' :=
  ⟨(Question.extern what 2).cut (w.tape w.drawn (Question.extern what 2)), _, by simp [Question.forced], Drawn.drew w⟩

theorem ok_even {P : Program} {k : FuncId} {fn : Func} (name : String) (hf : P.funcs[k]? = some fn) (hname : (fn.name == "runtime.NumGoroutine") = false)
    (hb : fn.body.isNone = true) (hn : Extern.findNext fn = none) (he : Extern.find fn = some (Extern.MathFloor.toIntegral name .even)) : FnOk P k sEven := by
  refine fnOk_ext hf hname hb hn he ?_
  intro args K h
  unfold sEven at h
  split at h
  · rename_i x
    refine ⟨_, h, fun K' h' => h', ?_⟩
    intro w M cargs hv
    cases hv with
    | cons a b =>
      cases b
      cases a with
      | float _ _ b' h1 h2 =>
        subst h2
        cases hx : nan .f64 b' with
        | false =>
          rw [canon_not hx]
          have hd := read_not_nan hx
          have hp : ∀ d, FloatKind.f64.decode b' = d → plainD d = true := by
            intro d e
            cases d with
            | nan s t => exact absurd e (hd s t)
            | infinity s => rfl
            | number s m p => rfl
          have hpl : plainD (((FloatKind.f64.decode b').integral .even)) = true := by
            have := hp _ rfl
            revert this
            cases FloatKind.f64.decode b' with
            | nan s t => exact id
            | infinity s => exact fun _ => rfl
            | number s m p => exact fun _ => rfl
          refine ⟨.float .f64 (FloatKind.f64.encode ((FloatKind.f64.decode b').integral .even)), w, ?_, Drawn.refl w, ?_⟩
          · have h0 : (Extern.MathFloor.toIntegral name .even #[.float .f64 b']) = (match FloatKind.f64.decode b' with
              | .nan s t => (if FloatKind.f64.format.quiet t = t then pure (.float .f64 b') else do
                let kept ← choose (.extern "math.Floor,Ceil,Trunc,RoundToEven.signallingNaN kept" 2)
                pure (.float .f64 (if kept == 1 then b' else FloatKind.f64.encode (.nan s (FloatKind.f64.format.quiet t)))))
              | d => pure (.float .f64 (FloatKind.f64.encode (d.integral .even)))) := rfl
            show (Extern.MathFloor.toIntegral name .even #[.float .f64 b']).run P w = _
            rw [h0]
            have := hp _ rfl
            revert this
            cases FloatKind.f64.decode b' with
            | nan s t => exact fun c => by cases c
            | infinity s => exact fun _ => rfl
            | number s m p => exact fun _ => rfl
          · have hn' : nan .f64 (FloatKind.f64.encode ((FloatKind.f64.decode b').integral .even)) = false := nan_write hpl
            refine .float _ _ _ ?_ ?_
            · have := FloatKind.f64.format.write_lt ((FloatKind.f64.decode b').integral .even)
              rw [← width_eq]
              exact this
            · unfold fwhole
              rw [hx, cond_false, canon_not hn']
        | true =>
          rw [canon_nan hx]
          have hw : fwhole .even (qnan .f64) = qnan .f64 := by unfold fwhole; rw [nan_qnan]; rfl
          rw [hw]
          obtain ⟨s, t, hr⟩ := read_nan hx
          have hr : FloatKind.f64.decode b' = .nan s t := hr
          have h0 : (Extern.MathFloor.toIntegral name .even #[.float .f64 b']) = (match FloatKind.f64.decode b' with
              | .nan s t => (if FloatKind.f64.format.quiet t = t then pure (.float .f64 b') else do
                let kept ← choose (.extern "math.Floor,Ceil,Trunc,RoundToEven.signallingNaN kept" 2)
                pure (.float .f64 (if kept == 1 then b' else FloatKind.f64.encode (.nan s (FloatKind.f64.format.quiet t)))))
              | d => pure (.float .f64 (FloatKind.f64.encode (d.integral .even)))) := rfl
          rw [hr] at h0
          simp only at h0
          by_cases hq : FloatKind.f64.format.quiet t = t
          · rw [if_pos hq] at h0
            refine ⟨.float .f64 b', w, ?_, Drawn.refl w, .float _ _ _ h1 (canon_nan hx).symm⟩
            show (Extern.MathFloor.toIntegral name .even #[.float .f64 b']).run P w = _
            rw [h0]; rfl
          · rw [if_neg hq] at h0
            obtain ⟨r, w', hc, hd⟩ := choose_ext P "math.Floor,Ceil,Trunc,RoundToEven.signallingNaN kept" w
            refine ⟨.float .f64 (if r == 1 then b' else FloatKind.f64.encode (.nan s (FloatKind.f64.format.quiet t))), w', ?_, hd, ?_⟩
            · show (Extern.MathFloor.toIntegral name .even #[.float .f64 b']).run P w = _
              rw [h0, Sem.run_bind, hc]; rfl
            · obtain ⟨e1, e2⟩ := enc_nan s t
              cases (r == 1) with
              | true => exact .float _ _ _ h1 (canon_nan hx).symm
              | false => exact .float _ _ _ e2 (canon_nan e1).symm
  · exact h.elim

end Go.Ev

/- Roots, lengths, sines: their walks, beside shapes. -/
set_option linter.unusedVariables false
set_option linter.unusedSimpArgs false
set_option maxRecDepth 100000
namespace Go.Proofs.Ytfhpmcdbfebflaa
open Go.Ev Go.Ev.Fl

abbrev s_math_Float64bits : Sm := sF64bits
theorem ok_math_Float64bits : FnOk Try.prog 176 (sF64bits) := ok_F64bits Try.func176 (by kernel_rfl) (by kernel_rfl) (by kernel_rfl) (by kernel_rfl)
abbrev s_math_Float64frombits : Sm := sF64from
theorem ok_math_Float64frombits : FnOk Try.prog 175 (sF64from) := ok_F64from Try.func175 (by kernel_rfl) (by kernel_rfl) (by kernel_rfl) (by kernel_rfl)
abbrev s_math_archTrunc : Sm := sWhole .zero
theorem ok_math_archTrunc : FnOk Try.prog 177 (sWhole .zero) := ok_whole "math.archTrunc" .zero Try.func177 (by kernel_rfl) (by kernel_rfl) (by kernel_rfl) (by kernel_rfl)
abbrev s_math_RoundToEven : Sm := sEven
theorem ok_math_RoundToEven : FnOk Try.prog 179 (sEven) := ok_even "math.RoundToEven" Try.func179 (by kernel_rfl) (by kernel_rfl) (by kernel_rfl) (by kernel_rfl)

theorem cond_yes {c : Bool} {P Q : Prop} (hc : c = true) (h : P) : cond c P Q := by rw [hc]; exact h
theorem cond_of {c : Bool} {P Q : Prop} (hc : c = false) (h : Q) : cond c P Q := by rw [hc]; exact h

noncomputable def c_math_NaN : Ctx := mkC Try.prog tyT [(175, s_math_Float64frombits)] [] [] 2 (fun _ => none) 0
theorem w_math_NaN (K : V → Heap → Prop) : wpFn c_math_NaN Try.f160 (encAs [] ()) [] K =
 K (.float .f64 (canon FloatKind.f64 9221120237041090561)) [] := by kernel_rfl
noncomputable def s_math_NaN : Sm := semT [] fun x => match x with | _ => .float .f64 9221120237041090560
theorem ok_math_NaN : FnOk Try.prog 160 s_math_NaN := fnOk_typed (fnOk_runC (C := c_math_NaN) rfl mixed (.cons ok_math_Float64frombits .nil) .nil .nil Try.func160 (by kernel_rfl)) fun (x : Unit) wf K h => by
  obtain ⟨⟩ := x
  replace h : K (.float .f64 9221120237041090560) [] := h
  rw [w_math_NaN  K]
  rw [show canon FloatKind.f64 9221120237041090561 = 9221120237041090560 by decide +kernel]
  exact h

theorem abs_bits {x : Nat} (h : x < 18446744073709551616) : Int.toNat (IntKind.wrap IntKind.u64 (↑(BitVec.toNat (BitVec.ofInt 64 (↑x : Int) &&& ~~~BitVec.ofInt 64 9223372036854775808)) : Int)) = x % 9223372036854775808 := by
  have e : BitVec.toNat (BitVec.ofInt 64 (↑x : Int) &&& ~~~BitVec.ofInt 64 9223372036854775808) = x % 9223372036854775808 := by
    rw [BitVec.toNat_and, BitVec.ofInt_natCast, BitVec.toNat_ofNat, Nat.mod_eq_of_lt (show x < 2 ^ 64 from h)]
    exact Nat.and_two_pow_sub_one_eq_mod x 63
  rw [e, wrap_of (by have : IntKind.u64.min = 0 := rfl; omega) (by have : IntKind.u64.max = 18446744073709551615 := rfl; omega)]
  omega
def absW (x : Nat) : Nat := abs64 x
noncomputable def c_math_Abs : Ctx := mkC Try.prog tyT [(176, s_math_Float64bits), (175, s_math_Float64frombits)] [] [] 7 (fun _ => none) 0
theorem w_math_Abs (x : Nat) (K : V → Heap → Prop) : wpFn c_math_Abs Try.f161 (encAs [.cell (.float .f64)] (x, ())) [] K =
 cond (nan FloatKind.f64 x)
 (False)
 (K (.float .f64 (canon FloatKind.f64 (Int.toNat (IntKind.wrap IntKind.u64 (↑(BitVec.toNat (BitVec.ofInt 64 (↑x : Int) &&& ~~~BitVec.ofInt 64 9223372036854775808)) : Int))))) []) := by kernel_rfl
noncomputable def s_math_Abs : Sm := semG [.cell (.float .f64)] (fun x => match x with | (x, _) => !nan .f64 x) fun x => match x with | (x, _) => .float .f64 (absW x)
theorem ok_math_Abs : FnOk Try.prog 161 s_math_Abs := fnOk_typedG (fnOk_runC (C := c_math_Abs) rfl mixed (.cons ok_math_Float64bits (.cons ok_math_Float64frombits .nil)) .nil .nil Try.func161 (by kernel_rfl)) fun (x : ((Nat) × Unit)) wf hg K h => by
  obtain ⟨x, ⟨⟩⟩ := x
  replace hg : (!nan .f64 x) = true := hg
  replace h : K (.float .f64 (absW x)) [] := h
  rw [w_math_Abs x K]
  rw [Bool.not_eq_true'] at hg
  rw [hg]
  have hl : x < 18446744073709551616 := wf.1.1
  rw [abs_bits hl]
  have hn : nan .f64 (x % 9223372036854775808) = false := by
    rw [nan_false] at hg ⊢
    show x % 9223372036854775808 % 9223372036854775808 ≤ _
    rw [Nat.mod_mod]
    exact hg
  rw [canon_not hn]
  exact h

noncomputable def c_math_Trunc : Ctx := mkC Try.prog tyT [(177, s_math_archTrunc)] [] [] 7 (fun _ => none) 0
theorem w_math_Trunc (x : Nat) (K : V → Heap → Prop) : wpFn c_math_Trunc Try.f162 (encAs [.cell (.float .f64)] (x, ())) [] K =
 cond (nan FloatKind.f64 x)
 (False)
 (K (.float .f64 (fwhole Ieee.Toward.zero x)) []) := by kernel_rfl
noncomputable def s_math_Trunc : Sm := semG [.cell (.float .f64)] (fun x => match x with | (x, _) => !nan .f64 x) fun x => match x with | (x, _) => .float .f64 (fwhole .zero x)
theorem ok_math_Trunc : FnOk Try.prog 162 s_math_Trunc := fnOk_typedG (fnOk_runC (C := c_math_Trunc) rfl mixed (.cons ok_math_archTrunc .nil) .nil .nil Try.func162 (by kernel_rfl)) fun (x : ((Nat) × Unit)) wf hg K h => by
  obtain ⟨x, ⟨⟩⟩ := x
  replace hg : (!nan .f64 x) = true := hg
  replace h : K (.float .f64 (fwhole .zero x)) [] := h
  rw [w_math_Trunc x K]
  cases e : nan .f64 x <;> rw [e] at hg
  · exact h
  · cases hg

theorem finN_fin {x : Nat} (hl : x < 2 * signOf .f32) : finN x = fin .f32 x := sub_self hl
def sineF (x : Nat) : Nat := sineN x
def sineOk (x : Nat) : Bool := sinOk x
noncomputable def a_impl_SineTurns : Nat → Option Ann := fun n => bif Nat.beq n 19 then some ⟨[5,6,7,8,9],0,false⟩ else none
noncomputable def c_impl_SineTurns : Ctx := mkC Try.prog tyT [(78, s_impl_IsFinite), (160, s_math_NaN), (161, s_math_Abs), (162, s_math_Trunc)] [] [] 72 a_impl_SineTurns 0
noncomputable def fr_impl_SineTurns_19 (f z u p : Nat) (b' : Bool) (i : Int) : Fr := [(5, .bool b'), (6, .float .f64 z), (7, .float .f64 u), (8, .float .f64 p), (9, .int .i64 i)]
theorem r_impl_SineTurns_19 (f z u p : Nat) (b' : Bool) (i : Int) (Kn : Fr → Heap → Prop) (K : V → Heap → Prop) : round c_impl_SineTurns ⟨[5,6,7,8,9],0,false⟩ (lb c_impl_SineTurns 19 Try.f136) (fr_impl_SineTurns_19 f z u p b' i) [] Kn (lk c_impl_SineTurns 19 Try.f136 [] K) =
 cond (decide (i ≥ 1))
 (Kn [(5, (.bool (b'))), (6, (.float .f64 (z))), (7, (.float .f64 (u))), (8, (.float .f64 (fsub FloatKind.f64 4607182418800017408 (fdiv FloatKind.f64 (fmul FloatKind.f64 u p) (FloatKind.nearest FloatKind.f64 (IntKind.wrap IntKind.i64 (IntKind.wrap IntKind.i64 (2 * i) * IntKind.wrap IntKind.i64 (IntKind.wrap IntKind.i64 (2 * i) + 1)))))))), (9, (.int .i64 (IntKind.wrap IntKind.i64 (i - 1))))] [])
 (cond (b')
 (cond (ovf (fneg FloatKind.f64 (fmul FloatKind.f64 z p)))
 (K .undef [])
 (K (.float .f32 (narrow (fneg FloatKind.f64 (fmul FloatKind.f64 z p)))) []))
 (cond (ovf (fmul FloatKind.f64 z p))
 (K .undef [])
 (K (.float .f32 (narrow (fmul FloatKind.f64 z p))) []))) := by kernel_rfl
theorem w_impl_SineTurns (x : Nat) (K : V → Heap → Prop) : wpFn c_impl_SineTurns Try.f136 (encAs [.cell tF] (x, ())) [] K =
 cond (!finN x)
 (cond (ovf 9221120237041090560)
 (K .undef [])
 (K (.float .f32 (narrow 9221120237041090560)) []))
 (cond (!nan FloatKind.f64 (widen x))
 (cond (fge FloatKind.f64 (absW (widen x)) 4841369599423283200)
 (K (.float .f32 0) [])
 (cond (!nan FloatKind.f64 (widen x))
 (cond (!feq FloatKind.f64 (fwhole Ieee.Toward.zero (widen x)) 0)
 (cond (flt FloatKind.f64 (fsub FloatKind.f64 (widen x) (fwhole Ieee.Toward.zero (widen x))) 0)
 (cond (fge FloatKind.f64 (fadd FloatKind.f64 (fsub FloatKind.f64 (widen x) (fwhole Ieee.Toward.zero (widen x))) 4607182418800017408) 4602678819172646912)
 (cond (fgt FloatKind.f64 (fsub FloatKind.f64 (fadd FloatKind.f64 (fsub FloatKind.f64 (widen x) (fwhole Ieee.Toward.zero (widen x))) 4607182418800017408) 4602678819172646912) 4598175219545276416)
 (LoopE c_impl_SineTurns ⟨[5, 6, 7, 8, 9], 0, false⟩ (lb c_impl_SineTurns 19 Try.f136) [(5, (.bool (fge FloatKind.f64 (fadd FloatKind.f64 (fsub FloatKind.f64 (widen x) (fwhole Ieee.Toward.zero (widen x))) 4607182418800017408) 4602678819172646912))), (6, (.float .f64 (fmul FloatKind.f64 (fsub FloatKind.f64 4602678819172646912 (fsub FloatKind.f64 (fadd FloatKind.f64 (fsub FloatKind.f64 (widen x) (fwhole Ieee.Toward.zero (widen x))) 4607182418800017408) 4602678819172646912)) 4618760256179416344))), (7, (.float .f64 (fmul FloatKind.f64 (fmul FloatKind.f64 (fsub FloatKind.f64 4602678819172646912 (fsub FloatKind.f64 (fadd FloatKind.f64 (fsub FloatKind.f64 (widen x) (fwhole Ieee.Toward.zero (widen x))) 4607182418800017408) 4602678819172646912)) 4618760256179416344) (fmul FloatKind.f64 (fsub FloatKind.f64 4602678819172646912 (fsub FloatKind.f64 (fadd FloatKind.f64 (fsub FloatKind.f64 (widen x) (fwhole Ieee.Toward.zero (widen x))) 4607182418800017408) 4602678819172646912)) 4618760256179416344)))), (8, (.float .f64 4607182418800017408)), (9, (.int .i64 8))] [] (lk c_impl_SineTurns 19 Try.f136 [] K))
 (LoopE c_impl_SineTurns ⟨[5, 6, 7, 8, 9], 0, false⟩ (lb c_impl_SineTurns 19 Try.f136) [(5, (.bool (fge FloatKind.f64 (fadd FloatKind.f64 (fsub FloatKind.f64 (widen x) (fwhole Ieee.Toward.zero (widen x))) 4607182418800017408) 4602678819172646912))), (6, (.float .f64 (fmul FloatKind.f64 (fsub FloatKind.f64 (fadd FloatKind.f64 (fsub FloatKind.f64 (widen x) (fwhole Ieee.Toward.zero (widen x))) 4607182418800017408) 4602678819172646912) 4618760256179416344))), (7, (.float .f64 (fmul FloatKind.f64 (fmul FloatKind.f64 (fsub FloatKind.f64 (fadd FloatKind.f64 (fsub FloatKind.f64 (widen x) (fwhole Ieee.Toward.zero (widen x))) 4607182418800017408) 4602678819172646912) 4618760256179416344) (fmul FloatKind.f64 (fsub FloatKind.f64 (fadd FloatKind.f64 (fsub FloatKind.f64 (widen x) (fwhole Ieee.Toward.zero (widen x))) 4607182418800017408) 4602678819172646912) 4618760256179416344)))), (8, (.float .f64 4607182418800017408)), (9, (.int .i64 8))] [] (lk c_impl_SineTurns 19 Try.f136 [] K)))
 (cond (fgt FloatKind.f64 (fadd FloatKind.f64 (fsub FloatKind.f64 (widen x) (fwhole Ieee.Toward.zero (widen x))) 4607182418800017408) 4598175219545276416)
 (LoopE c_impl_SineTurns ⟨[5, 6, 7, 8, 9], 0, false⟩ (lb c_impl_SineTurns 19 Try.f136) [(5, (.bool (fge FloatKind.f64 (fadd FloatKind.f64 (fsub FloatKind.f64 (widen x) (fwhole Ieee.Toward.zero (widen x))) 4607182418800017408) 4602678819172646912))), (6, (.float .f64 (fmul FloatKind.f64 (fsub FloatKind.f64 4602678819172646912 (fadd FloatKind.f64 (fsub FloatKind.f64 (widen x) (fwhole Ieee.Toward.zero (widen x))) 4607182418800017408)) 4618760256179416344))), (7, (.float .f64 (fmul FloatKind.f64 (fmul FloatKind.f64 (fsub FloatKind.f64 4602678819172646912 (fadd FloatKind.f64 (fsub FloatKind.f64 (widen x) (fwhole Ieee.Toward.zero (widen x))) 4607182418800017408)) 4618760256179416344) (fmul FloatKind.f64 (fsub FloatKind.f64 4602678819172646912 (fadd FloatKind.f64 (fsub FloatKind.f64 (widen x) (fwhole Ieee.Toward.zero (widen x))) 4607182418800017408)) 4618760256179416344)))), (8, (.float .f64 4607182418800017408)), (9, (.int .i64 8))] [] (lk c_impl_SineTurns 19 Try.f136 [] K))
 (LoopE c_impl_SineTurns ⟨[5, 6, 7, 8, 9], 0, false⟩ (lb c_impl_SineTurns 19 Try.f136) [(5, (.bool (fge FloatKind.f64 (fadd FloatKind.f64 (fsub FloatKind.f64 (widen x) (fwhole Ieee.Toward.zero (widen x))) 4607182418800017408) 4602678819172646912))), (6, (.float .f64 (fmul FloatKind.f64 (fadd FloatKind.f64 (fsub FloatKind.f64 (widen x) (fwhole Ieee.Toward.zero (widen x))) 4607182418800017408) 4618760256179416344))), (7, (.float .f64 (fmul FloatKind.f64 (fmul FloatKind.f64 (fadd FloatKind.f64 (fsub FloatKind.f64 (widen x) (fwhole Ieee.Toward.zero (widen x))) 4607182418800017408) 4618760256179416344) (fmul FloatKind.f64 (fadd FloatKind.f64 (fsub FloatKind.f64 (widen x) (fwhole Ieee.Toward.zero (widen x))) 4607182418800017408) 4618760256179416344)))), (8, (.float .f64 4607182418800017408)), (9, (.int .i64 8))] [] (lk c_impl_SineTurns 19 Try.f136 [] K))))
 (cond (fge FloatKind.f64 (fsub FloatKind.f64 (widen x) (fwhole Ieee.Toward.zero (widen x))) 4602678819172646912)
 (cond (fgt FloatKind.f64 (fsub FloatKind.f64 (fsub FloatKind.f64 (widen x) (fwhole Ieee.Toward.zero (widen x))) 4602678819172646912) 4598175219545276416)
 (LoopE c_impl_SineTurns ⟨[5, 6, 7, 8, 9], 0, false⟩ (lb c_impl_SineTurns 19 Try.f136) [(5, (.bool (fge FloatKind.f64 (fsub FloatKind.f64 (widen x) (fwhole Ieee.Toward.zero (widen x))) 4602678819172646912))), (6, (.float .f64 (fmul FloatKind.f64 (fsub FloatKind.f64 4602678819172646912 (fsub FloatKind.f64 (fsub FloatKind.f64 (widen x) (fwhole Ieee.Toward.zero (widen x))) 4602678819172646912)) 4618760256179416344))), (7, (.float .f64 (fmul FloatKind.f64 (fmul FloatKind.f64 (fsub FloatKind.f64 4602678819172646912 (fsub FloatKind.f64 (fsub FloatKind.f64 (widen x) (fwhole Ieee.Toward.zero (widen x))) 4602678819172646912)) 4618760256179416344) (fmul FloatKind.f64 (fsub FloatKind.f64 4602678819172646912 (fsub FloatKind.f64 (fsub FloatKind.f64 (widen x) (fwhole Ieee.Toward.zero (widen x))) 4602678819172646912)) 4618760256179416344)))), (8, (.float .f64 4607182418800017408)), (9, (.int .i64 8))] [] (lk c_impl_SineTurns 19 Try.f136 [] K))
 (LoopE c_impl_SineTurns ⟨[5, 6, 7, 8, 9], 0, false⟩ (lb c_impl_SineTurns 19 Try.f136) [(5, (.bool (fge FloatKind.f64 (fsub FloatKind.f64 (widen x) (fwhole Ieee.Toward.zero (widen x))) 4602678819172646912))), (6, (.float .f64 (fmul FloatKind.f64 (fsub FloatKind.f64 (fsub FloatKind.f64 (widen x) (fwhole Ieee.Toward.zero (widen x))) 4602678819172646912) 4618760256179416344))), (7, (.float .f64 (fmul FloatKind.f64 (fmul FloatKind.f64 (fsub FloatKind.f64 (fsub FloatKind.f64 (widen x) (fwhole Ieee.Toward.zero (widen x))) 4602678819172646912) 4618760256179416344) (fmul FloatKind.f64 (fsub FloatKind.f64 (fsub FloatKind.f64 (widen x) (fwhole Ieee.Toward.zero (widen x))) 4602678819172646912) 4618760256179416344)))), (8, (.float .f64 4607182418800017408)), (9, (.int .i64 8))] [] (lk c_impl_SineTurns 19 Try.f136 [] K)))
 (cond (fgt FloatKind.f64 (fsub FloatKind.f64 (widen x) (fwhole Ieee.Toward.zero (widen x))) 4598175219545276416)
 (LoopE c_impl_SineTurns ⟨[5, 6, 7, 8, 9], 0, false⟩ (lb c_impl_SineTurns 19 Try.f136) [(5, (.bool (fge FloatKind.f64 (fsub FloatKind.f64 (widen x) (fwhole Ieee.Toward.zero (widen x))) 4602678819172646912))), (6, (.float .f64 (fmul FloatKind.f64 (fsub FloatKind.f64 4602678819172646912 (fsub FloatKind.f64 (widen x) (fwhole Ieee.Toward.zero (widen x)))) 4618760256179416344))), (7, (.float .f64 (fmul FloatKind.f64 (fmul FloatKind.f64 (fsub FloatKind.f64 4602678819172646912 (fsub FloatKind.f64 (widen x) (fwhole Ieee.Toward.zero (widen x)))) 4618760256179416344) (fmul FloatKind.f64 (fsub FloatKind.f64 4602678819172646912 (fsub FloatKind.f64 (widen x) (fwhole Ieee.Toward.zero (widen x)))) 4618760256179416344)))), (8, (.float .f64 4607182418800017408)), (9, (.int .i64 8))] [] (lk c_impl_SineTurns 19 Try.f136 [] K))
 (LoopE c_impl_SineTurns ⟨[5, 6, 7, 8, 9], 0, false⟩ (lb c_impl_SineTurns 19 Try.f136) [(5, (.bool (fge FloatKind.f64 (fsub FloatKind.f64 (widen x) (fwhole Ieee.Toward.zero (widen x))) 4602678819172646912))), (6, (.float .f64 (fmul FloatKind.f64 (fsub FloatKind.f64 (widen x) (fwhole Ieee.Toward.zero (widen x))) 4618760256179416344))), (7, (.float .f64 (fmul FloatKind.f64 (fmul FloatKind.f64 (fsub FloatKind.f64 (widen x) (fwhole Ieee.Toward.zero (widen x))) 4618760256179416344) (fmul FloatKind.f64 (fsub FloatKind.f64 (widen x) (fwhole Ieee.Toward.zero (widen x))) 4618760256179416344)))), (8, (.float .f64 4607182418800017408)), (9, (.int .i64 8))] [] (lk c_impl_SineTurns 19 Try.f136 [] K)))))
 (cond (flt FloatKind.f64 (widen x) 0)
 (cond (fge FloatKind.f64 (fadd FloatKind.f64 (widen x) 4607182418800017408) 4602678819172646912)
 (cond (fgt FloatKind.f64 (fsub FloatKind.f64 (fadd FloatKind.f64 (widen x) 4607182418800017408) 4602678819172646912) 4598175219545276416)
 (LoopE c_impl_SineTurns ⟨[5, 6, 7, 8, 9], 0, false⟩ (lb c_impl_SineTurns 19 Try.f136) [(5, (.bool (fge FloatKind.f64 (fadd FloatKind.f64 (widen x) 4607182418800017408) 4602678819172646912))), (6, (.float .f64 (fmul FloatKind.f64 (fsub FloatKind.f64 4602678819172646912 (fsub FloatKind.f64 (fadd FloatKind.f64 (widen x) 4607182418800017408) 4602678819172646912)) 4618760256179416344))), (7, (.float .f64 (fmul FloatKind.f64 (fmul FloatKind.f64 (fsub FloatKind.f64 4602678819172646912 (fsub FloatKind.f64 (fadd FloatKind.f64 (widen x) 4607182418800017408) 4602678819172646912)) 4618760256179416344) (fmul FloatKind.f64 (fsub FloatKind.f64 4602678819172646912 (fsub FloatKind.f64 (fadd FloatKind.f64 (widen x) 4607182418800017408) 4602678819172646912)) 4618760256179416344)))), (8, (.float .f64 4607182418800017408)), (9, (.int .i64 8))] [] (lk c_impl_SineTurns 19 Try.f136 [] K))
 (LoopE c_impl_SineTurns ⟨[5, 6, 7, 8, 9], 0, false⟩ (lb c_impl_SineTurns 19 Try.f136) [(5, (.bool (fge FloatKind.f64 (fadd FloatKind.f64 (widen x) 4607182418800017408) 4602678819172646912))), (6, (.float .f64 (fmul FloatKind.f64 (fsub FloatKind.f64 (fadd FloatKind.f64 (widen x) 4607182418800017408) 4602678819172646912) 4618760256179416344))), (7, (.float .f64 (fmul FloatKind.f64 (fmul FloatKind.f64 (fsub FloatKind.f64 (fadd FloatKind.f64 (widen x) 4607182418800017408) 4602678819172646912) 4618760256179416344) (fmul FloatKind.f64 (fsub FloatKind.f64 (fadd FloatKind.f64 (widen x) 4607182418800017408) 4602678819172646912) 4618760256179416344)))), (8, (.float .f64 4607182418800017408)), (9, (.int .i64 8))] [] (lk c_impl_SineTurns 19 Try.f136 [] K)))
 (cond (fgt FloatKind.f64 (fadd FloatKind.f64 (widen x) 4607182418800017408) 4598175219545276416)
 (LoopE c_impl_SineTurns ⟨[5, 6, 7, 8, 9], 0, false⟩ (lb c_impl_SineTurns 19 Try.f136) [(5, (.bool (fge FloatKind.f64 (fadd FloatKind.f64 (widen x) 4607182418800017408) 4602678819172646912))), (6, (.float .f64 (fmul FloatKind.f64 (fsub FloatKind.f64 4602678819172646912 (fadd FloatKind.f64 (widen x) 4607182418800017408)) 4618760256179416344))), (7, (.float .f64 (fmul FloatKind.f64 (fmul FloatKind.f64 (fsub FloatKind.f64 4602678819172646912 (fadd FloatKind.f64 (widen x) 4607182418800017408)) 4618760256179416344) (fmul FloatKind.f64 (fsub FloatKind.f64 4602678819172646912 (fadd FloatKind.f64 (widen x) 4607182418800017408)) 4618760256179416344)))), (8, (.float .f64 4607182418800017408)), (9, (.int .i64 8))] [] (lk c_impl_SineTurns 19 Try.f136 [] K))
 (LoopE c_impl_SineTurns ⟨[5, 6, 7, 8, 9], 0, false⟩ (lb c_impl_SineTurns 19 Try.f136) [(5, (.bool (fge FloatKind.f64 (fadd FloatKind.f64 (widen x) 4607182418800017408) 4602678819172646912))), (6, (.float .f64 (fmul FloatKind.f64 (fadd FloatKind.f64 (widen x) 4607182418800017408) 4618760256179416344))), (7, (.float .f64 (fmul FloatKind.f64 (fmul FloatKind.f64 (fadd FloatKind.f64 (widen x) 4607182418800017408) 4618760256179416344) (fmul FloatKind.f64 (fadd FloatKind.f64 (widen x) 4607182418800017408) 4618760256179416344)))), (8, (.float .f64 4607182418800017408)), (9, (.int .i64 8))] [] (lk c_impl_SineTurns 19 Try.f136 [] K))))
 (cond (fge FloatKind.f64 (widen x) 4602678819172646912)
 (cond (fgt FloatKind.f64 (fsub FloatKind.f64 (widen x) 4602678819172646912) 4598175219545276416)
 (LoopE c_impl_SineTurns ⟨[5, 6, 7, 8, 9], 0, false⟩ (lb c_impl_SineTurns 19 Try.f136) [(5, (.bool (fge FloatKind.f64 (widen x) 4602678819172646912))), (6, (.float .f64 (fmul FloatKind.f64 (fsub FloatKind.f64 4602678819172646912 (fsub FloatKind.f64 (widen x) 4602678819172646912)) 4618760256179416344))), (7, (.float .f64 (fmul FloatKind.f64 (fmul FloatKind.f64 (fsub FloatKind.f64 4602678819172646912 (fsub FloatKind.f64 (widen x) 4602678819172646912)) 4618760256179416344) (fmul FloatKind.f64 (fsub FloatKind.f64 4602678819172646912 (fsub FloatKind.f64 (widen x) 4602678819172646912)) 4618760256179416344)))), (8, (.float .f64 4607182418800017408)), (9, (.int .i64 8))] [] (lk c_impl_SineTurns 19 Try.f136 [] K))
 (LoopE c_impl_SineTurns ⟨[5, 6, 7, 8, 9], 0, false⟩ (lb c_impl_SineTurns 19 Try.f136) [(5, (.bool (fge FloatKind.f64 (widen x) 4602678819172646912))), (6, (.float .f64 (fmul FloatKind.f64 (fsub FloatKind.f64 (widen x) 4602678819172646912) 4618760256179416344))), (7, (.float .f64 (fmul FloatKind.f64 (fmul FloatKind.f64 (fsub FloatKind.f64 (widen x) 4602678819172646912) 4618760256179416344) (fmul FloatKind.f64 (fsub FloatKind.f64 (widen x) 4602678819172646912) 4618760256179416344)))), (8, (.float .f64 4607182418800017408)), (9, (.int .i64 8))] [] (lk c_impl_SineTurns 19 Try.f136 [] K)))
 (cond (fgt FloatKind.f64 (widen x) 4598175219545276416)
 (LoopE c_impl_SineTurns ⟨[5, 6, 7, 8, 9], 0, false⟩ (lb c_impl_SineTurns 19 Try.f136) [(5, (.bool (fge FloatKind.f64 (widen x) 4602678819172646912))), (6, (.float .f64 (fmul FloatKind.f64 (fsub FloatKind.f64 4602678819172646912 (widen x)) 4618760256179416344))), (7, (.float .f64 (fmul FloatKind.f64 (fmul FloatKind.f64 (fsub FloatKind.f64 4602678819172646912 (widen x)) 4618760256179416344) (fmul FloatKind.f64 (fsub FloatKind.f64 4602678819172646912 (widen x)) 4618760256179416344)))), (8, (.float .f64 4607182418800017408)), (9, (.int .i64 8))] [] (lk c_impl_SineTurns 19 Try.f136 [] K))
 (LoopE c_impl_SineTurns ⟨[5, 6, 7, 8, 9], 0, false⟩ (lb c_impl_SineTurns 19 Try.f136) [(5, (.bool (fge FloatKind.f64 (widen x) 4602678819172646912))), (6, (.float .f64 (fmul FloatKind.f64 (widen x) 4618760256179416344))), (7, (.float .f64 (fmul FloatKind.f64 (fmul FloatKind.f64 (widen x) 4618760256179416344) (fmul FloatKind.f64 (widen x) 4618760256179416344)))), (8, (.float .f64 4607182418800017408)), (9, (.int .i64 8))] [] (lk c_impl_SineTurns 19 Try.f136 [] K))))))
 (False)))
 (False)) := by kernel_rfl
noncomputable def s_impl_SineTurns : Sm := semG [.cell tF] (fun x => match x with | (x, _) => sineOk x) fun x => match x with | (x, _) => .float .f32 (sineF x)
theorem ok_impl_SineTurns : FnOk Try.prog 136 s_impl_SineTurns := fnOk_typedG (fnOk_runC (C := c_impl_SineTurns) rfl mixed (.cons ok_impl_IsFinite (.cons ok_math_NaN (.cons ok_math_Abs (.cons ok_math_Trunc .nil)))) .nil .nil Try.func136 (by kernel_rfl)) fun (x : ((Nat) × Unit)) wf hg K h => by
  obtain ⟨x, ⟨⟩⟩ := x
  replace hg : (sineOk x) = true := hg
  replace h : K (.float .f32 (sineF x)) [] := h
  rw [w_impl_SineTurns x K]
  obtain ⟨g1, g2, g3, g4, hov⟩ := sinOk_trunc hg wf.1.1
  have g3 : fge .f64 (absW (widen x)) 4841369599423283200 = false := g3
  have g4 : finN x = true := by rw [finN_fin wf.1.1]; exact g4
  simp only [g1, g2, g3, g4, Bool.not_true, Bool.not_false, cond_true, cond_false]
  replace h : K (.float .f32 (narrow (sine64 x))) [] := h
  have loop : ∀ (w : Nat) (tb : Bool), (sine64 x = bif tb then fneg .f64 (sinO w) else sinO w) → LoopE c_impl_SineTurns ⟨[5, 6, 7, 8, 9], 0, false⟩ (lb c_impl_SineTurns 19 Try.f136) (fr_impl_SineTurns_19 0 (fmul .f64 w 4618760256179416344) (fmul .f64 (fmul .f64 w 4618760256179416344) (fmul .f64 w 4618760256179416344)) 4607182418800017408 tb 8) [] (lk c_impl_SineTurns 19 Try.f136 [] K) := by
    intro w tb hs
    rw [hs] at h hov
    generalize hz : fmul .f64 w 4618760256179416344 = z
    refine loop_run (σ := Nat) (fun j => fr_impl_SineTurns_19 0 z (fmul .f64 z z) (sinP (fmul .f64 z z) j) tb (8 - (j : Int))) (fun _ => []) (fun j => j ≤ 8) (fun j => 8 - j) ?_ 0 (Nat.zero_le _)
    intro j hj Kn hk
    rw [r_impl_SineTurns_19 0 z (fmul .f64 z z) (sinP (fmul .f64 z z) j) tb (8 - (j : Int)) Kn K]
    by_cases hlt : j < 8
    · have b1 : 2 * (8 - (j : Int)) * (2 * (8 - (j : Int)) + 1) ≤ 16 * 17 := Int.mul_le_mul (by omega) (by omega) (by omega) (by omega)
      have b2 : 0 ≤ 2 * (8 - (j : Int)) * (2 * (8 - (j : Int)) + 1) := Int.mul_nonneg (by omega) (by omega)
      rw [d_t (show (8 : Int) - (j : Int) ≥ 1 by omega), i64_of (n := 2 * (8 - (j : Int))) (by omega) (by omega), i64_of (n := 2 * (8 - (j : Int)) + 1) (by omega) (by omega), i64_of (n := 2 * (8 - (j : Int)) * (2 * (8 - (j : Int)) + 1)) (by omega) (by omega), i64_of (n := 8 - (j : Int) - 1) (by omega) (by omega)]
      have := hk (j + 1) hlt (by omega)
      rw [show (8 : Int) - ((j + 1 : Nat) : Int) = 8 - (j : Int) - 1 by omega] at this
      exact this
    · have : j = 8 := by omega
      subst this
      rw [d_f (show ¬ (8 : Int) - ((8 : Nat) : Int) ≥ 1 by decide)]
      subst hz
      cases tb <;> simp only [cond_true, cond_false] at hov h ⊢ <;> exact cond_of hov h
  cases c1 : flt .f64 (widen x) 0
  · cases c2 : fge .f64 (widen x) 4602678819172646912
    · cases c3 : fgt .f64 (widen x) 4598175219545276416 <;> exact loop _ _ (by unfold sine64; simp only [c1, c2, c3, cond_true, cond_false])
    · cases c3 : fgt .f64 (fsub .f64 (widen x) 4602678819172646912) 4598175219545276416 <;> exact loop _ _ (by unfold sine64; simp only [c1, c2, c3, cond_true, cond_false])
  · cases c2 : fge .f64 (fadd .f64 (widen x) 4607182418800017408) 4602678819172646912
    · cases c3 : fgt .f64 (fadd .f64 (widen x) 4607182418800017408) 4598175219545276416 <;> exact loop _ _ (by unfold sine64; simp only [c1, c2, c3, cond_true, cond_false])
    · cases c3 : fgt .f64 (fsub .f64 (fadd .f64 (widen x) 4607182418800017408) 4602678819172646912) 4598175219545276416 <;> exact loop _ _ (by unfold sine64; simp only [c1, c2, c3, cond_true, cond_false])

def rintV (x : Nat) : Nat := narrow (fwhole .even (widen x))
noncomputable def c_impl_nearest : Ctx := mkC Try.prog tyT [(179, s_math_RoundToEven)] [] [] 7 (fun _ => none) 0
theorem w_impl_nearest (x : Nat) (K : V → Heap → Prop) : wpFn c_impl_nearest Try.f163 (encAs [.cell tF] (x, ())) [] K =
 cond (ovf (fwhole Ieee.Toward.even (widen x)))
 (K .undef [])
 (K (.float .f32 (narrow (fwhole Ieee.Toward.even (widen x)))) []) := by kernel_rfl
noncomputable def s_impl_nearest : Sm := semT [.cell tF] fun x => match x with | (x, _) => .float .f32 (rintV x)
theorem ok_impl_nearest : FnOk Try.prog 163 s_impl_nearest := fnOk_typed (fnOk_runC (C := c_impl_nearest) rfl mixed (.cons ok_math_RoundToEven .nil) .nil .nil Try.func163 (by kernel_rfl)) fun (x : ((Nat) × Unit)) wf K h => by
  obtain ⟨x, ⟨⟩⟩ := x
  replace h : K (.float .f32 (rintV x)) [] := h
  rw [w_impl_nearest x K]
  exact cond_of (even_ovf wf.1.1 wf.1.2) h

def addV (a b : V3) : V3 := (fadd .f32 a.1 b.1, fadd .f32 a.2.1 b.2.1, fadd .f32 a.2.2 b.2.2)
def subV (a b : V3) : V3 := (fsub .f32 a.1 b.1, fsub .f32 a.2.1 b.2.1, fsub .f32 a.2.2 b.2.2)
def innerV (a b : V3) : Nat := fadd .f32 (fadd .f32 (fmul .f32 a.1 b.1) (fmul .f32 a.2.1 b.2.1)) (fmul .f32 a.2.2 b.2.2)
def rootV (x : Nat) : Nat := rootN x
def longV (a : V3) : Nat := rootV (innerV a a)
noncomputable def c_impl_LessVectors : Ctx := mkC Try.prog tyT [] [] [] 21 (fun _ => none) 0
theorem w_impl_LessVectors (a b : V3) (K : V → Heap → Prop) : wpFn c_impl_LessVectors Try.f39 (encAs [.agg tV, .agg tV] (a, b, ())) [] K =
 K (.agg [(.float .f32 (fsub FloatKind.f32 (Prod.fst a) (Prod.fst b))), (.float .f32 (fsub FloatKind.f32 (Prod.fst (Prod.snd a)) (Prod.fst (Prod.snd b)))), (.float .f32 (fsub FloatKind.f32 (Prod.snd (Prod.snd a)) (Prod.snd (Prod.snd b))))]) [] := by kernel_rfl
noncomputable def s_impl_LessVectors : Sm := semT [.agg tV, .agg tV] fun x => match x with | (a, b, _) => .agg (enc tV (subV a b))
theorem ok_impl_LessVectors : FnOk Try.prog 39 s_impl_LessVectors := fnOk_typed (fnOk_runC (C := c_impl_LessVectors) rfl mixed .nil .nil .nil Try.func39 (by kernel_rfl)) fun (x : ((V3) × (V3) × Unit)) wf K h => by
  obtain ⟨a, b, ⟨⟩⟩ := x
  replace h : K (.agg (enc tV (subV a b))) [] := h
  rw [w_impl_LessVectors a b K]
  exact h

noncomputable def c_impl_InnerOf : Ctx := mkC Try.prog tyT [] [] [] 22 (fun _ => none) 0
theorem w_impl_InnerOf (a b : V3) (K : V → Heap → Prop) : wpFn c_impl_InnerOf Try.f123 (encAs [.agg tV, .agg tV] (a, b, ())) [] K =
 K (.float .f32 (fadd FloatKind.f32 (fadd FloatKind.f32 (fmul FloatKind.f32 (Prod.fst a) (Prod.fst b)) (fmul FloatKind.f32 (Prod.fst (Prod.snd a)) (Prod.fst (Prod.snd b)))) (fmul FloatKind.f32 (Prod.snd (Prod.snd a)) (Prod.snd (Prod.snd b))))) [] := by kernel_rfl
noncomputable def s_impl_InnerOf : Sm := semT [.agg tV, .agg tV] fun x => match x with | (a, b, _) => .float .f32 (innerV a b)
theorem ok_impl_InnerOf : FnOk Try.prog 123 s_impl_InnerOf := fnOk_typed (fnOk_runC (C := c_impl_InnerOf) rfl mixed .nil .nil .nil Try.func123 (by kernel_rfl)) fun (x : ((V3) × (V3) × Unit)) wf K h => by
  obtain ⟨a, b, ⟨⟩⟩ := x
  replace h : K (.float .f32 (innerV a b)) [] := h
  rw [w_impl_InnerOf a b K]
  exact h

noncomputable def c_math_Sqrt : Ctx := mkC Try.prog tyT [(172, s_math_sqrt)] [] [] 5 (fun _ => none) 0
theorem w_math_Sqrt (x : Nat) (K : V → Heap → Prop) : wpFn c_math_Sqrt Try.f154 (encAs [.cell (.float .f64)] (x, ())) [] K =
 K (.float .f64 (fsqrt FloatKind.f64 x)) [] := by kernel_rfl
noncomputable def s_math_Sqrt : Sm := semT [.cell (.float .f64)] fun x => match x with | (x, _) => .float .f64 (fsqrt .f64 x)
theorem ok_math_Sqrt : FnOk Try.prog 154 s_math_Sqrt := fnOk_typed (fnOk_runC (C := c_math_Sqrt) rfl mixed (.cons ok_math_sqrt .nil) .nil .nil Try.func154 (by kernel_rfl)) fun (x : ((Nat) × Unit)) wf K h => by
  obtain ⟨x, ⟨⟩⟩ := x
  replace h : K (.float .f64 (fsqrt .f64 x)) [] := h
  rw [w_math_Sqrt x K]
  exact h

noncomputable def c_impl_RootNumber : Ctx := mkC Try.prog tyT [(154, s_math_Sqrt)] [] [] 7 (fun _ => none) 0
theorem w_impl_RootNumber (x : Nat) (K : V → Heap → Prop) : wpFn c_impl_RootNumber Try.f122 (encAs [.cell tF] (x, ())) [] K =
 cond (ovf (fsqrt FloatKind.f64 (widen x)))
 (K .undef [])
 (K (.float .f32 (narrow (fsqrt FloatKind.f64 (widen x)))) []) := by kernel_rfl
noncomputable def s_impl_RootNumber : Sm := semT [.cell tF] fun x => match x with | (x, _) => .float .f32 (rootV x)
theorem ok_impl_RootNumber : FnOk Try.prog 122 s_impl_RootNumber := fnOk_typed (fnOk_runC (C := c_impl_RootNumber) rfl mixed (.cons ok_math_Sqrt .nil) .nil .nil Try.func122 (by kernel_rfl)) fun (x : ((Nat) × Unit)) wf K h => by
  obtain ⟨x, ⟨⟩⟩ := x
  replace h : K (.float .f32 (rootV x)) [] := h
  rw [w_impl_RootNumber x K]
  rw [root_ovf wf.1.1 wf.1.2]
  exact h

noncomputable def c_impl_LongOf : Ctx := mkC Try.prog tyT [(123, s_impl_InnerOf), (122, s_impl_RootNumber)] [] [] 7 (fun _ => none) 0
theorem w_impl_LongOf (a : V3) (K : V → Heap → Prop) : wpFn c_impl_LongOf Try.f61 (encAs [.agg tV] (a, ())) [] K =
 K (.float .f32 (rootV (innerV a a))) [] := by kernel_rfl
noncomputable def s_impl_LongOf : Sm := semT [.agg tV] fun x => match x with | (a, _) => .float .f32 (longV a)
theorem ok_impl_LongOf : FnOk Try.prog 61 s_impl_LongOf := fnOk_typed (fnOk_runC (C := c_impl_LongOf) rfl mixed (.cons ok_impl_InnerOf (.cons ok_impl_RootNumber .nil)) .nil .nil Try.func61 (by kernel_rfl)) fun (x : ((V3) × Unit)) wf K h => by
  obtain ⟨a, ⟨⟩⟩ := x
  replace h : K (.float .f32 (longV a)) [] := h
  rw [w_impl_LongOf a K]
  exact h

end Go.Proofs.Ytfhpmcdbfebflaa

