/- Shapes: when they are valid. -/
import Derived.Test.YtoaholifeklhaaaDoorIdx
import Derived.Test.YtoaholifeklhaaaDoorVec
set_option linter.unusedVariables false
set_option linter.unusedSimpArgs false
set_option maxRecDepth 100000
namespace Go.Proofs.YtoaholifeklhaaaDoor
open Go.Ev
abbrev tN : Ty := .pair tI (.pair tI (.pair tI (.slice tF)))
abbrev NodeD := Int × Int × Int × List Nat
abbrev tR : Ty := .pair tI (.pair tI (.pair .bool tI))

/-! plain -/
--B inR Int → Int → Int → Bool
def inR (n lo hi : Int) : Bool := decide (n ≥ lo) && decide (n ≤ hi)
theorem inR_iff {n lo hi : Int} : inR n lo hi = true ↔ lo ≤ n ∧ n ≤ hi := by simp [inR]
def kindL : List (Int × Int × Bool × Int) := [(1, 0, false, 1), (3, 0, false, 1), (2, 0, false, 1), (2, 0, false, 1), (4, 0, false, 0), (0, 2, false, 0), (0, 2, false, 0), (0, 2, false, 0), (1, 2, false, 2), (3, 1, false, 0), (1, 1, false, 2), (3, 1, false, 2), (1, 1, true, 0), (0, 1, true, 0), (1, 1, true, 2), (1, 1, false, 0), (1, 1, false, 1)]
def isK (k : Int) : Bool := inR k 0 16
--B kindN Int → Int
--B kindC Int → Int
--B kindA Int → Bool
--B kindS Int → Int
def kindV (k : Int) : Int × Int × Bool × Int := bif isK k then (kindL[k.toNat]?).getD (0, 0, false, 0) else (0, 0, false, 0)
def kindN (k : Int) : Int := (kindV k).1
def kindC (k : Int) : Int := (kindV k).2.1
def kindA (k : Int) : Bool := (kindV k).2.2.1
def kindS (k : Int) : Int := (kindV k).2.2.2
theorem kinds {k : Int} (h : isK k = true) : k = 0 ∨ k = 1 ∨ k = 2 ∨ k = 3 ∨ k = 4 ∨ k = 5 ∨ k = 6 ∨ k = 7 ∨ k = 8 ∨ k = 9 ∨ k = 10 ∨ k = 11 ∨ k = 12 ∨ k = 13 ∨ k = 14 ∨ k = 15 ∨ k = 16 := by
  have := inR_iff.1 h
  omega
theorem kindV_no {k : Int} (h : isK k = false) : kindV k = (0, 0, false, 0) := by unfold kindV; rw [h]; rfl
theorem isK_ne {k : Int} (h : isK k = false) {j : Int} (hj : 0 ≤ j ∧ j ≤ 16) : (k == j) = false := by
  refine beq_eq_false_iff_ne.2 fun e => ?_
  subst e
  rw [show isK k = true from inR_iff.2 hj] at h
  cases h

def finN (x : Nat) : Bool := feq FloatKind.f32 (fsub FloatKind.f32 x x) 0
def sgnB (s : Int) (x : Nat) : Bool := (s == 1 && flt FloatKind.f32 x 0) || (s == 2 && fle FloatKind.f32 x 0)
--B numsB Int → List Nat → Bool
def numsB (k : Int) (xs : List Nat) : Bool := isK k && ((xs.length : Int) == kindN k && (!xs.any (fun x => !finN x) && !xs.any (fun x => sgnB (kindS k) x)))
--B axB Int → Int → Int → Bool
def axB (k a b : Int) : Bool := (decide (kindC k > 0) || a == 0) && (kindC k == 2 || (b == 0 || (kindA k && inR b 0 2)))
theorem kindC_range (k : Int) : 0 ≤ kindC k ∧ kindC k ≤ 2 := by
  cases hk : isK k with
  | true => rcases kinds hk with e | e | e | e | e | e | e | e | e | e | e | e | e | e | e | e | e <;> subst e <;> decide
  | false => simp only [kindC, kindV_no hk]; decide
--B kids Int → Int → Int → List Int
def kids (k a b : Int) : List Int := [a, b].take (kindC k).toNat

/-! plain: uses of nodes -/
abbrev kidsN (n : NodeD) : List Int := kids n.1 n.2.1 n.2.2.1
--B nodeB Int → NodeD → Bool
def nodeB (i : Int) (n : NodeD) : Bool := numsB n.1 n.2.2.2 && (axB n.1 n.2.1 n.2.2.1 && (kidsN n).all (fun c => inR c 0 (i - 1)))
def inc1 (u : List Int) (c : Int) : List Int := u.set c.toNat (((u[c.toNat]?).getD 0) + 1)
def incs (u cs : List Int) : List Int := cs.foldl inc1 u
def usesOf (ns : List NodeD) (u : List Int) : List Int := ns.foldl (fun u n => incs u (kidsN n)) u
def nodesB (ns : List NodeD) : Bool := (List.range ns.length).all fun i => match ns[i]? with | some n => nodeB i n | none => true
def usesAt (ns : List NodeD) (i : Nat) : List Int := usesOf (ns.take i) (List.replicate ns.length 0)
--B validS List NodeD → Bool
def validS (ns : List NodeD) : Bool := inR ns.length 1 16 && (nodesB ns && ((usesAt ns ns.length).take (ns.length - 1)).all (fun x => x == 1))
def OkUp (ns : List NodeD) (i : Nat) : Prop := ∀ (j : Nat) (n : NodeD), j < i → ns[j]? = some n → nodeB j n = true
theorem okUp_all {ns : List NodeD} (h : OkUp ns ns.length) : nodesB ns = true := by
  refine List.all_eq_true.2 fun j hj => ?_
  cases e : ns[j]? with
  | none => rfl
  | some n => exact h j n (lt_of_get e) e
theorem valid_no {ns : List NodeD} {i : Nat} (hi : i < ns.length) (h : nodeB i (ns[i]'hi) = false) : validS ns = false := by
  have : nodesB ns = false := by
    refine List.all_eq_false.2 ⟨i, by simpa using hi, ?_⟩
    rw [get_lt hi]
    simp [h]
  unfold validS
  rw [this, Bool.false_and, Bool.and_false]
theorem okUp_succ {ns : List NodeD} {i : Nat} (hi : i < ns.length) (h : OkUp ns i) (hn : nodeB i (ns[i]'hi) = true) : OkUp ns (i + 1) := by
  intro j n hj e
  by_cases h' : j < i
  · exact h j n h' e
  · have : j = i := by omega
    subst this
    rw [get_lt hi] at e
    cases e
    exact hn
theorem usesAt_succ {ns : List NodeD} {i : Nat} (hi : i < ns.length) : usesAt ns (i + 1) = incs (usesAt ns i) (kidsN (ns[i]'hi)) := by
  unfold usesAt usesOf
  rw [take_one hi, List.foldl_append]
  rfl
theorem incs_take (u : List Int) {cs : List Int} {j : Nat} (hj : j < cs.length) : incs u (cs.take (j + 1)) = inc1 (incs u (cs.take j)) (cs[j]'hj) := by
  unfold incs
  rw [take_one hj, List.foldl_append]
  rfl
theorem inc1_facts {u : List Int} {c : Int} {B : Int} {i : Nat} (hc : 0 ≤ c ∧ c < i) (hu : ∀ x ∈ u, 0 ≤ x ∧ x ≤ B) (hB : 0 ≤ B) :
    (inc1 u c).length = u.length ∧ (∀ x ∈ inc1 u c, 0 ≤ x ∧ x ≤ B + 1) ∧ (∀ p, i ≤ p → (inc1 u c)[p]? = u[p]?) := by
  unfold inc1
  refine ⟨List.length_set, fun x hx => ?_, fun p hp => ?_⟩
  · rcases List.mem_or_eq_of_mem_set hx with h | h
    · have := hu x h; omega
    · subst h
      cases e : u[c.toNat]? with
      | none => simp; omega
      | some y => have := hu y (List.mem_of_getElem? e); simp; omega
  · rw [List.getElem?_set_ne (by omega)]
theorem incs_facts {i : Nat} : ∀ (cs : List Int) {u : List Int} {B : Int}, (∀ c ∈ cs, 0 ≤ c ∧ c < i) → (∀ x ∈ u, 0 ≤ x ∧ x ≤ B) → 0 ≤ B →
    (incs u cs).length = u.length ∧ (∀ x ∈ incs u cs, 0 ≤ x ∧ x ≤ B + cs.length) ∧ (∀ p, i ≤ p → (incs u cs)[p]? = u[p]?)
  | [], u, B, _, hu, hB => ⟨rfl, fun x hx => by have := hu x hx; simp; omega, fun _ _ => rfl⟩
  | c :: cs, u, B, hc, hu, hB => by
    obtain ⟨h1, h2, h3⟩ := inc1_facts (hc c (by simp)) hu hB
    obtain ⟨k1, k2, k3⟩ := incs_facts cs (u := inc1 u c) (B := B + 1) (fun c' hc' => hc c' (by simp [hc'])) h2 (by omega)
    refine ⟨k1.trans h1, fun x hx => ?_, fun p hp => (k3 p hp).trans (h3 p hp)⟩
    have := k2 x hx
    rw [List.length_cons]
    omega
theorem nodeB_kids {i : Int} {n : NodeD} (h : nodeB i n = true) : ∀ c ∈ kidsN n, 0 ≤ c ∧ c ≤ i - 1 := by
  unfold nodeB at h
  simp only [Bool.and_eq_true] at h
  intro c hc
  exact inR_iff.1 (List.all_eq_true.1 h.2.2 c hc)
theorem kids_len (n : NodeD) : (kidsN n).length ≤ 2 := by simp only [kidsN, kids, List.length_take, List.length_cons, List.length_nil]; omega
theorem uses_facts {ns : List NodeD} : ∀ (i : Nat), i ≤ ns.length → OkUp ns i →
    (usesAt ns i).length = ns.length ∧ (∀ x ∈ usesAt ns i, 0 ≤ x ∧ x ≤ 2 * (i : Int)) ∧ (∀ p x, i ≤ p + 1 → (usesAt ns i)[p]? = some x → x = 0)
  | 0, _, _ => by
    refine ⟨by simp [usesAt, usesOf], fun x hx => ?_, fun p x _ hx => ?_⟩
    · simp only [usesAt, usesOf, List.take_zero, List.foldl_nil, List.mem_replicate] at hx
      omega
    · simp only [usesAt, usesOf, List.take_zero, List.foldl_nil, List.getElem?_replicate] at hx
      split at hx
      · cases hx; rfl
      · cases hx
  | i + 1, hi, hok => by
    have hlt : i < ns.length := by omega
    obtain ⟨h1, h2, h3⟩ := uses_facts i (by omega) fun j n hj => hok j n (by omega)
    have hn := hok i _ (Nat.lt_succ_self i) (get_lt hlt)
    obtain ⟨k1, k2, k3⟩ := incs_facts (i := i) (kidsN (ns[i]'hlt)) (u := usesAt ns i) (B := 2 * (i : Int)) (fun c hc => by have := nodeB_kids hn c hc; omega) h2 (by omega)
    rw [usesAt_succ hlt]
    refine ⟨k1.trans h1, fun x hx => ?_, fun p x hp hx => ?_⟩
    · have := k2 x hx
      have := kids_len (ns[i]'hlt)
      omega
    · rw [k3 p (by omega)] at hx
      exact h3 p x (by omega) hx
theorem kind_cases {k : Int} (a b : Int) (h : isK k = true) : (inR k 0 4 = true ∧ inR k 5 8 = false ∧ kids k a b = []) ∨ (inR k 0 4 = false ∧ inR k 5 8 = false ∧ kids k a b = [a]) ∨ (inR k 0 4 = false ∧ inR k 5 8 = true ∧ kids k a b = [a, b]) := by
  rcases kinds h with e | e | e | e | e | e | e | e | e | e | e | e | e | e | e | e | e <;> subst e <;> first | exact .inl ⟨rfl, rfl, rfl⟩ | exact .inr (.inl ⟨rfl, rfl, rfl⟩) | exact .inr (.inr ⟨rfl, rfl, rfl⟩)
theorem kind_ax {k : Int} (a b : Int) (h : isK k = true) : (inR k 0 4 = true ∧ kids k a b = [] ∧ axB k a b = (a == 0 && b == 0)) ∨ (inR k 0 4 = false ∧ inR k 5 8 = false ∧ inR k 12 14 = false ∧ kids k a b = [a] ∧ axB k a b = (b == 0)) ∨
    (inR k 0 4 = false ∧ inR k 5 8 = false ∧ inR k 12 14 = true ∧ kids k a b = [a] ∧ axB k a b = inR b 0 2) ∨ (inR k 0 4 = false ∧ inR k 5 8 = true ∧ kids k a b = [a, b] ∧ axB k a b = true) := by
  have hb : (b == 0 || inR b 0 2) = inR b 0 2 := by
    by_cases e : b = 0
    · subst e; rfl
    · rw [beq_eq_false_iff_ne.2 e, Bool.false_or]
  have leaf : ∀ k, kindC k = 0 → kindA k = false → axB k a b = (a == 0 && b == 0) := by
    intro k h1 h2
    unfold axB
    rw [h1, h2]
    cases a == 0 <;> cases b == 0 <;> rfl
  have one : ∀ k, kindC k = 1 → kindA k = false → axB k a b = (b == 0) := by
    intro k h1 h2
    unfold axB
    rw [h1, h2]
    cases a == 0 <;> cases b == 0 <;> rfl
  have ax : ∀ k, kindC k = 1 → kindA k = true → axB k a b = inR b 0 2 := by
    intro k h1 h2
    unfold axB
    rw [h1, h2, ← hb]
    cases a == 0 <;> cases b == 0 <;> cases inR b 0 2 <;> rfl
  have two : ∀ k, kindC k = 2 → axB k a b = true := by
    intro k h1
    unfold axB
    rw [h1]
    cases a == 0 <;> rfl
  rcases kinds h with e | e | e | e | e | e | e | e | e | e | e | e | e | e | e | e | e <;> subst e <;> first
    | exact .inl ⟨rfl, rfl, leaf _ rfl rfl⟩
    | exact .inr (.inl ⟨rfl, rfl, rfl, rfl, one _ rfl rfl⟩)
    | exact .inr (.inr (.inl ⟨rfl, rfl, rfl, rfl, ax _ rfl rfl⟩))
    | exact .inr (.inr (.inr ⟨rfl, rfl, rfl, two _ rfl⟩))
theorem nodeB_isK {i : Int} {n : NodeD} (h : nodeB i n = true) : isK n.1 = true := by
  unfold nodeB numsB at h
  simp only [Bool.and_eq_true] at h
  exact h.1.1
theorem all_one (us : List Int) : (!us.any fun x => x != 1) = us.all fun x => x == 1 := by
  induction us with
  | nil => rfl
  | cons x us ih =>
    simp only [List.any_cons, List.all_cons, Bool.not_or, bne, Bool.not_not] at ih ⊢
    rw [ih]
theorem valid_last {ns : List NodeD} (h : inR ns.length 1 16 = true) (hok : OkUp ns ns.length) : validS ns = ((usesAt ns ns.length).take (ns.length - 1)).all (fun x => x == 1) := by
  unfold validS
  rw [h, okUp_all hok, Bool.true_and, Bool.true_and]

/-! impl.in -/
noncomputable def c_impl_in : Ctx := mkC Tryd.prog tyT [] [] [] 15 (fun _ => none) 0
theorem w_impl_in (n lo hi : Int) (K : V → Heap → Prop) : wpFn c_impl_in Tryd.f28 (encAs [.cell tI, .cell tI, .cell tI] (n, lo, hi, ())) [] K =
  cond (decide (n ≥ lo))
    (K (.bool (decide (n ≤ hi))) [])
    (K (.bool false) []) := by kernel_rfl
noncomputable def s_impl_in : Sm := semT [.cell tI, .cell tI, .cell tI] fun x => match x with | (n, lo, hi, _) => .bool (inR n lo hi)
theorem ok_impl_in : FnOk Tryd.prog 28 s_impl_in := fnOk_typed (fnOk_runC (C := c_impl_in) rfl mixed .nil .nil .nil Tryd.func28 (by kernel_rfl)) fun (x : ((Int) × (Int) × (Int) × Unit)) wf K h => by
  obtain ⟨n, lo, hi, ⟨⟩⟩ := x
  replace h : K (.bool (inR n lo hi)) [] := h
  rw [w_impl_in n lo hi K]
  revert h
  unfold inR
  cases decide (n ≥ lo) <;> exact id





























end Go.Proofs.YtoaholifeklhaaaDoor
