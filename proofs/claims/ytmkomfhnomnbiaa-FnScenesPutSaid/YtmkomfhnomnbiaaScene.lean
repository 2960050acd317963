/- Scenes: when they are valid; their copies, sizes and equality. -/
import Derived.Test.YtmkomfhnomnbiaaNames
set_option linter.unusedVariables false
set_option linter.unusedSimpArgs false
set_option maxRecDepth 100000
namespace Go.Proofs.Ytmkomfhnomnbiaa
open Go.Ev

abbrev tK : Ty := .pair tI tV
abbrev KeyD := Int × V3
abbrev tT : Ty := .pair .str (.pair tS (.slice tK))
abbrev ThingD := Str × ShapeD × List KeyD
--B finV V3 → Bool
def finV (u : V3) : Bool := finN u.1 && (finN u.2.1 && finN u.2.2)
def keyAt (ks : List KeyD) (i : Nat) : Bool := match ks[i]? with
  | some k => inR k.1 0 10000 && (finV k.2 && (i == 0 || decide (((ks[i - 1]?).getD (0, 0, 0, 0)).1 < k.1)))
  | none => true
def keysUp (ks : List KeyD) : Bool := (List.range ks.length).all (keyAt ks)
--B keysB List KeyD → Bool
def keysB (ks : List KeyD) : Bool := inR ks.length 1 8 && keysUp ks
theorem keys_no {ks : List KeyD} {i : Nat} (hi : i < ks.length) (h : keyAt ks i = false) : keysUp ks = false :=
  List.all_eq_false.2 ⟨i, by simpa using hi, by simp [h]⟩
theorem keys_yes {ks : List KeyD} (h : ∀ j, j < ks.length → keyAt ks j = true) : keysUp ks = true :=
  List.all_eq_true.2 fun j hj => h j (by simpa using hj)
theorem keyAt_eq {ks : List KeyD} {i : Nat} (hi : i < ks.length) : keyAt ks i = (inR (ks[i]'hi).1 0 10000 && (finV (ks[i]'hi).2 && (i == 0 || decide (((ks[i - 1]?).getD (0, 0, 0, 0)).1 < (ks[i]'hi).1)))) := by
  unfold keyAt
  rw [get_lt hi]
theorem keyAt_in {ks : List KeyD} {i : Nat} (hi : i < ks.length) (h : keyAt ks i = true) : 0 ≤ (ks[i]'hi).1 ∧ (ks[i]'hi).1 ≤ 10000 := by
  rw [keyAt_eq hi] at h
  simp only [Bool.and_eq_true] at h
  exact inR_iff.1 h.1
--B thingB ThingD → Bool
def thingB (t : ThingD) : Bool := nameB t.1 && (validS t.2.1 && keysB t.2.2)
def thingAt (ts : List ThingD) (i : Nat) : Bool := match ts[i]? with
  | some t => thingB t && (i == 0 || Op.bytesLess ((ts[i - 1]?).getD ([], [], [])).1 t.1)
  | none => true
def thingsUp (ts : List ThingD) : Bool := (List.range ts.length).all (thingAt ts)
--B sceneB List ThingD → Bool
def sceneB (ts : List ThingD) : Bool := thingsUp ts && decide (ts.length ≤ 8)
theorem things_no {ts : List ThingD} {i : Nat} (hi : i < ts.length) (h : thingAt ts i = false) : thingsUp ts = false :=
  List.all_eq_false.2 ⟨i, by simpa using hi, by simp [h]⟩
theorem things_yes {ts : List ThingD} (h : ∀ j, j < ts.length → thingAt ts j = true) : thingsUp ts = true :=
  List.all_eq_true.2 fun j hj => h j (by simpa using hj)
theorem thingAt_eq {ts : List ThingD} {i : Nat} (hi : i < ts.length) : thingAt ts i = (thingB (ts[i]'hi) && (i == 0 || Op.bytesLess ((ts[i - 1]?).getD ([], [], [])).1 (ts[i]'hi).1)) := by
  unfold thingAt
  rw [get_lt hi]

/-! impl.finiteVector -/
noncomputable def c_impl_finiteVector : Ctx := mkC Try.prog tyT [(46, s_impl_finite)] [] [] 11 (fun _ => none) 0
theorem w_impl_finiteVector (u : V3) (K : V → Heap → Prop) : wpFn c_impl_finiteVector Try.f30 (encAs [.agg tV] (u, ())) [] K =
  K (.bool (!List.any [Prod.fst u, Prod.fst (Prod.snd u), Prod.snd (Prod.snd u)] fun x => !finN x)) [] := by kernel_rfl
noncomputable def s_impl_finiteVector : Sm := semT [.agg tV] fun x => match x with | (u, _) => .bool (finV u)
theorem ok_impl_finiteVector : FnOk Try.prog 30 s_impl_finiteVector := fnOk_typed (fnOk_runC (C := c_impl_finiteVector) rfl mixed (.cons ok_impl_finite .nil) .nil .nil Try.func30 (by kernel_rfl)) fun (x : ((V3) × Unit)) wf K h => by
  obtain ⟨u, ⟨⟩⟩ := x
  replace h : K (.bool (finV u)) [] := h
  rw [w_impl_finiteVector u K]
  have : (!List.any [u.1, u.2.1, u.2.2] fun x => !finN x) = finV u := by
    unfold finV
    simp only [List.any_cons, List.any_nil, Bool.not_or, Bool.not_not, Bool.not_false, Bool.and_true]
  rw [this]
  exact h



/-! (*impl.Thing).ok -/
noncomputable def a_impl_Thing_ok : Nat → Option Ann := fun n => bif Nat.beq n 2 then some ⟨[0,8,9,10],0,false⟩ else none
noncomputable def c_impl_Thing_ok : Ctx := mkC Try.prog tyT [(29, s_impl_in), (30, s_impl_finiteVector), (31, s_impl_IsName), (32, s_impl_ValidShape)] [] [] 64 a_impl_Thing_ok 0
noncomputable def fr_impl_Thing_ok_2 (s : Str) (ns : ShapeD) (ks : List KeyD) (n i : Int) : Fr := [(0, .ref [.str s, .vec tN ns, .vec tK ks] 0), (8, .vec tK ks), (9, .int .i64 n), (10, .int .i64 i)]
theorem r_impl_Thing_ok_2 (s : Str) (ns : ShapeD) (ks : List KeyD) (n i : Int) (Kn : Fr → Heap → Prop) (K : V → Heap → Prop) : round c_impl_Thing_ok ⟨[0,8,9,10],0,false⟩ (lb c_impl_Thing_ok 2 Try.f16) (fr_impl_Thing_ok_2 s ns ks n i) [] Kn (lk c_impl_Thing_ok 2 Try.f16 [] K) =
  cond (decide (i < n))
    (cond (decide (0 ≤ i))
      ((match ks[Int.toNat i]? with
        | some y0 => cond (!inR (Prod.fst y0) 0 10000)
          (K (.bool false) [])
          (cond (!finV (Prod.snd y0))
            (K (.bool false) [])
            (cond (decide (i > 0))
              (cond (decide (0 ≤ IntKind.wrap IntKind.i64 (i - 1)))
                ((match ks[Int.toNat (IntKind.wrap IntKind.i64 (i - 1))]? with
                  | some y1 => cond (decide (Prod.fst y1 ≥ Prod.fst y0))
                    (K (.bool false) [])
                    (Kn [(0, (.ref [(.str (s)), (.vec tN (ns)), (.vec tK (ks))] 0)), (8, (.vec tK (ks))), (9, (.int .i64 (n))), (10, (.int .i64 (IntKind.wrap IntKind.i64 (i + 1))))] [])
                  | none => False))
                (False))
              (Kn [(0, (.ref [(.str (s)), (.vec tN (ns)), (.vec tK (ks))] 0)), (8, (.vec tK (ks))), (9, (.int .i64 (n))), (10, (.int .i64 (IntKind.wrap IntKind.i64 (i + 1))))] [])))
        | none => False))
      (False))
    (cond (nameB s)
      (cond (validS ns)
        (K (.bool (inR (↑(List.length ks) : Int) 1 8)) [])
        (K (.bool false) []))
      (K (.bool false) [])) := by kernel_rfl
theorem w_impl_Thing_ok (s : Str) (ns : ShapeD) (ks : List KeyD) (K : V → Heap → Prop) : wpFn c_impl_Thing_ok Try.f16 (encAs [.ref tT] ((s, ns, ks), ())) [] K =
  LoopE c_impl_Thing_ok ⟨[0, 8, 9, 10], 0, false⟩ (lb c_impl_Thing_ok 2 Try.f16) [(0, (.ref [(.str (s)), (.vec tN (ns)), (.vec tK (ks))] 0)), (8, (.vec tK (ks))), (9, (.int .i64 ((↑(List.length ks) : Int)))), (10, (.int .i64 0))] [] (lk c_impl_Thing_ok 2 Try.f16 [] K) := by kernel_rfl
noncomputable def s_impl_Thing_ok : Sm := semT [.ref tT] fun x => match x with | ((s, ns, ks), _) => .bool (thingB (s, ns, ks))
theorem ok_impl_Thing_ok : FnOk Try.prog 16 s_impl_Thing_ok := fnOk_typed (fnOk_runC (C := c_impl_Thing_ok) rfl mixed (.cons ok_impl_in (.cons ok_impl_finiteVector (.cons ok_impl_IsName (.cons ok_impl_ValidShape .nil)))) .nil .nil Try.func16 (by kernel_rfl)) fun (x : (((Str) × (ShapeD) × (List KeyD)) × Unit)) wf K h => by
  obtain ⟨⟨s, ns, ks⟩, ⟨⟩⟩ := x
  replace h : K (.bool (thingB (s, ns, ks))) [] := h
  rw [w_impl_Thing_ok s ns ks K]
  obtain ⟨⟨_, _, wl, _⟩, _⟩ := wf
  have wl : ks.length ≤ 9223372036854775807 := wl
  have hT : thingB (s, ns, ks) = (nameB s && (validS ns && (inR ks.length 1 8 && keysUp ks))) := rfl
  rw [hT] at h
  refine loop_run (σ := Nat) (fun i => fr_impl_Thing_ok_2 s ns ks ks.length i) (fun _ => []) (fun i => i ≤ ks.length ∧ ∀ j, j < i → keyAt ks j = true) (fun i => ks.length - i) ?_ 0 ⟨Nat.zero_le _, fun j hj => by omega⟩
  intro i hi Kn hk
  rw [r_impl_Thing_ok_2 s ns ks ks.length i Kn K]
  by_cases hlt : i < ks.length
  · simp only [d_lt hlt, d_0, cond_true, Int.toNat_natCast, get_lt hlt]
    rw [i64_of (n := (i : Int) + 1) (by omega) (by omega)]
    have next : keyAt ks i = true → Kn (fr_impl_Thing_ok_2 s ns ks ks.length ((i : Int) + 1)) [] := fun e =>
      hk (i + 1) ⟨hlt, fun j hj => (Nat.lt_or_ge j i).elim (hi.2 j) fun h' => (show j = i by omega) ▸ e⟩ (by omega)
    have no : keyAt ks i = false → K (.bool false) [] := fun e => by
      rw [keys_no hlt e, Bool.and_false, Bool.and_false, Bool.and_false] at h
      exact h
    rw [keyAt_eq hlt] at no next
    cases e1 : inR (ks[i]'hlt).1 0 10000 with
    | false => exact no (by rw [e1]; rfl)
    | true =>
      rw [e1, Bool.true_and] at no next
      simp only [Bool.not_true, cond_false]
      cases e2 : finV (ks[i]'hlt).2 with
      | false => exact no (by rw [e2]; rfl)
      | true =>
        rw [e2, Bool.true_and] at no next
        simp only [Bool.not_true, cond_false]
        by_cases h0 : i = 0
        · subst h0
          exact next rfl
        · have hp : i - 1 < ks.length := by omega
          simp only [d_t (show (i : Int) > 0 by omega), cond_true]
          rw [i64_of (n := (i : Int) - 1) (by omega) (by omega), show ((i : Int) - 1).toNat = i - 1 by omega, get_lt hp]
          simp only [d_t (show (0 : Int) ≤ (i : Int) - 1 by omega), cond_true]
          rw [beq_eq_false_iff_ne.2 h0, get_lt hp, Option.getD_some, Bool.false_or] at no next
          by_cases e3 : (ks[i - 1]'hp).1 < (ks[i]'hlt).1
          · rw [d_f (show ¬ (ks[i - 1]'hp).1 ≥ (ks[i]'hlt).1 by omega)]
            exact next (d_t e3)
          · rw [d_t (show (ks[i - 1]'hp).1 ≥ (ks[i]'hlt).1 by omega)]
            exact no (d_f e3)
  · have : i = ks.length := by omega
    subst this
    simp only [d_nlt hlt, cond_false]
    rw [keys_yes hi.2, Bool.and_true] at h
    revert h
    cases nameB s <;> cases validS ns <;> exact id


/-! impl.ValidScene -/
noncomputable def a_impl_ValidScene : Nat → Option Ann := fun n => bif Nat.beq n 2 then some ⟨[1,6,7],1,false⟩ else none
noncomputable def c_impl_ValidScene : Ctx := mkC Try.prog tyT [(16, s_impl_Thing_ok)] [] [] 41 a_impl_ValidScene 0
noncomputable def fr_impl_ValidScene_2 (ts : List ThingD) (n i : Int) : Fr := [(1, .ptr 0 0), (6, .int .i64 n), (7, .int .i64 i)]
noncomputable def hp_impl_ValidScene_2 (ts : List ThingD) (n i : Int) : Heap := [.box [.vec tT ts]]
theorem r_impl_ValidScene_2 (ts : List ThingD) (n i : Int) (Kn : Fr → Heap → Prop) (K : V → Heap → Prop) : round c_impl_ValidScene ⟨[1,6,7],1,false⟩ (lb c_impl_ValidScene 2 Try.f11) (fr_impl_ValidScene_2 ts n i) (hp_impl_ValidScene_2 ts n i) Kn (lk c_impl_ValidScene 2 Try.f11 [] K) =
  cond (decide (i < n))
    (cond (decide (0 ≤ i))
      ((match ts[Int.toNat i]? with
        | some y0 => cond (!thingB y0)
          (K (.bool false) [])
          (cond (decide (i > 0))
            (cond (decide (0 ≤ IntKind.wrap IntKind.i64 (i - 1)))
              ((match ts[Int.toNat (IntKind.wrap IntKind.i64 (i - 1))]? with
                | some y1 => cond (decide (0 ≤ i))
                  ((match ts[Int.toNat i]? with
                    | some y2 => cond (!Op.bytesLess (Prod.fst y1) (Prod.fst y2))
                      (K (.bool false) [])
                      (Kn [(1, (.ptr 0 0)), (6, (.int .i64 (n))), (7, (.int .i64 (IntKind.wrap IntKind.i64 (i + 1))))] [(.box [(.vec tT (ts))])])
                    | none => False))
                  (False)
                | none => False))
              (False))
            (Kn [(1, (.ptr 0 0)), (6, (.int .i64 (n))), (7, (.int .i64 (IntKind.wrap IntKind.i64 (i + 1))))] [(.box [(.vec tT (ts))])]))
        | none => False))
      (False))
    (K (.bool (decide ((↑(List.length ts) : Int) ≤ 8))) []) := by kernel_rfl
theorem w_impl_ValidScene (ts : List ThingD) (K : V → Heap → Prop) : wpFn c_impl_ValidScene Try.f11 (encAs [.agg (.slice tT)] (ts, ())) [] K =
  LoopE c_impl_ValidScene ⟨[1, 6, 7], 1, false⟩ (lb c_impl_ValidScene 2 Try.f11) [(1, (.ptr 0 0)), (6, (.int .i64 ((↑(List.length ts) : Int)))), (7, (.int .i64 0))] [(.box [(.vec tT (ts))])] (lk c_impl_ValidScene 2 Try.f11 [] K) := by kernel_rfl
noncomputable def s_impl_ValidScene : Sm := semT [.agg (.slice tT)] fun x => match x with | (ts, _) => .bool (sceneB ts)
theorem ok_impl_ValidScene : FnOk Try.prog 11 s_impl_ValidScene := fnOk_typed (fnOk_runC (C := c_impl_ValidScene) rfl mixed (.cons ok_impl_Thing_ok .nil) .nil .nil Try.func11 (by kernel_rfl)) fun (x : ((List ThingD) × Unit)) wf K h => by
  obtain ⟨ts, ⟨⟩⟩ := x
  replace h : K (.bool (sceneB ts)) [] := h
  rw [w_impl_ValidScene ts K]
  obtain ⟨⟨wl, _⟩, _⟩ := wf
  have wl : ts.length ≤ 9223372036854775807 := wl
  unfold sceneB at h
  refine loop_run (σ := Nat) (fun i => fr_impl_ValidScene_2 ts ts.length i) (fun i => hp_impl_ValidScene_2 ts ts.length i) (fun i => i ≤ ts.length ∧ ∀ j, j < i → thingAt ts j = true) (fun i => ts.length - i) ?_ 0 ⟨Nat.zero_le _, fun j hj => by omega⟩
  intro i hi Kn hk
  rw [r_impl_ValidScene_2 ts ts.length i Kn K]
  by_cases hlt : i < ts.length
  · simp only [d_lt hlt, d_0, cond_true, Int.toNat_natCast, get_lt hlt]
    rw [i64_of (n := (i : Int) + 1) (by omega) (by omega)]
    have next : thingAt ts i = true → Kn (fr_impl_ValidScene_2 ts ts.length ((i : Int) + 1)) (hp_impl_ValidScene_2 ts ts.length i) := fun e =>
      hk (i + 1) ⟨hlt, fun j hj => (Nat.lt_or_ge j i).elim (hi.2 j) fun h' => (show j = i by omega) ▸ e⟩ (by omega)
    have no : thingAt ts i = false → K (.bool false) [] := fun e => by
      rw [things_no hlt e] at h
      exact h
    rw [thingAt_eq hlt] at no next
    change cond (!thingB (ts[i]'hlt)) _ _
    cases e1 : thingB (ts[i]'hlt) with
    | false => exact no (by rw [e1]; rfl)
    | true =>
      rw [e1, Bool.true_and] at no next
      simp only [Bool.not_true, cond_false]
      by_cases h0 : i = 0
      · subst h0
        exact next rfl
      · have hp : i - 1 < ts.length := by omega
        simp only [d_t (show (i : Int) > 0 by omega), cond_true]
        rw [i64_of (n := (i : Int) - 1) (by omega) (by omega), show ((i : Int) - 1).toNat = i - 1 by omega, get_lt hp]
        simp only [d_t (show (0 : Int) ≤ (i : Int) - 1 by omega), cond_true]
        rw [beq_eq_false_iff_ne.2 h0, get_lt hp, Option.getD_some, Bool.false_or] at no next
        cases e2 : Op.bytesLess (ts[i - 1]'hp).1 (ts[i]'hlt).1 with
        | false => exact no e2
        | true => exact next e2
  · have : i = ts.length := by omega
    subst this
    simp only [d_nlt hlt, cond_false]
    rw [things_yes hi.2, Bool.true_and] at h
    rw [show decide ((ts.length : Int) ≤ 8) = decide (ts.length ≤ 8) from decide_eq_decide.2 (by omega)]
    exact h








--B wThing ThingD → Nat
def wThing (t : ThingD) : Nat := t.1.length + wShape t.2.1 + t.2.2.length
--B wScene List ThingD → Nat
def wScene (ts : List ThingD) : Nat := wList wThing ts





def fitT (t : ThingD) : Bool := fitS t.2.1 && decide (t.2.2.length ≤ 1048576)
def fitC (ts : List ThingD) : Bool := decide (ts.length ≤ 1048576) && ts.all fitT







theorem fitC_of {ts : List ThingD} (h : wScene ts ≤ 1048576) : fitC ts = true := by
  unfold fitC
  have h1 := wList_ge wThing ts
  simp only [Bool.and_eq_true, decide_eq_true_eq]
  refine ⟨by unfold wScene at h; omega, List.all_eq_true.2 fun t ht => ?_⟩
  have := mem_le wThing ht
  unfold wScene wList at h
  have e : wThing t = t.1.length + wShape t.2.1 + t.2.2.length := rfl
  unfold fitT
  simp only [Bool.and_eq_true, decide_eq_true_eq]
  exact ⟨fitS_of (by omega), by omega⟩


end Go.Proofs.Ytmkomfhnomnbiaa
