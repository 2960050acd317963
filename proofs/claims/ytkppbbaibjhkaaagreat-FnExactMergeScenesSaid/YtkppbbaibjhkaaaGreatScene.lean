/- Scenes: when they are valid; their copies, sizes and equality. -/
import Derived.Test.YtkppbbaibjhkaaaGreatNames
set_option linter.unusedVariables false
set_option linter.unusedSimpArgs false
set_option maxRecDepth 100000
namespace Go.Proofs.YtkppbbaibjhkaaaGreat
open Go.Ev

abbrev tK : Ty := .pair tI tV
abbrev KeyD := Int × V3
abbrev tT : Ty := .pair .str (.pair tS (.slice tK))
abbrev ThingD := Str × ShapeD × List KeyD
--B finV V3 → Bool
def finV (u : V3) : Bool := finN u.1 && (finN u.2.1 && finN u.2.2)
def keyAt (ks : List KeyD) (i : Nat) : Bool := match ks[i]? with
  | some k => inR k.1 0 10000 && (finV k.2 && (i == 0 || decide (((ks[i - 1]?).getD (0, 0, 0, 0)).1 < k.1)))
  | none => true
def keysUp (ks : List KeyD) : Bool := (List.range ks.length).all (keyAt ks)
--B keysB List KeyD → Bool
def keysB (ks : List KeyD) : Bool := inR ks.length 1 8 && keysUp ks
theorem keys_no {ks : List KeyD} {i : Nat} (hi : i < ks.length) (h : keyAt ks i = false) : keysUp ks = false :=
  List.all_eq_false.2 ⟨i, by simpa using hi, by simp [h]⟩
theorem keys_yes {ks : List KeyD} (h : ∀ j, j < ks.length → keyAt ks j = true) : keysUp ks = true :=
  List.all_eq_true.2 fun j hj => h j (by simpa using hj)
theorem keyAt_eq {ks : List KeyD} {i : Nat} (hi : i < ks.length) : keyAt ks i = (inR (ks[i]'hi).1 0 10000 && (finV (ks[i]'hi).2 && (i == 0 || decide (((ks[i - 1]?).getD (0, 0, 0, 0)).1 < (ks[i]'hi).1)))) := by
  unfold keyAt
  rw [get_lt hi]
theorem keyAt_in {ks : List KeyD} {i : Nat} (hi : i < ks.length) (h : keyAt ks i = true) : 0 ≤ (ks[i]'hi).1 ∧ (ks[i]'hi).1 ≤ 10000 := by
  rw [keyAt_eq hi] at h
  simp only [Bool.and_eq_true] at h
  exact inR_iff.1 h.1
--B thingB ThingD → Bool
def thingB (t : ThingD) : Bool := nameB t.1 && (validS t.2.1 && keysB t.2.2)
def thingAt (ts : List ThingD) (i : Nat) : Bool := match ts[i]? with
  | some t => thingB t && (i == 0 || Op.bytesLess ((ts[i - 1]?).getD ([], [], [])).1 t.1)
  | none => true
def thingsUp (ts : List ThingD) : Bool := (List.range ts.length).all (thingAt ts)
--B sceneB List ThingD → Bool
def sceneB (ts : List ThingD) : Bool := thingsUp ts && decide (ts.length ≤ 8)
theorem things_no {ts : List ThingD} {i : Nat} (hi : i < ts.length) (h : thingAt ts i = false) : thingsUp ts = false :=
  List.all_eq_false.2 ⟨i, by simpa using hi, by simp [h]⟩
theorem things_yes {ts : List ThingD} (h : ∀ j, j < ts.length → thingAt ts j = true) : thingsUp ts = true :=
  List.all_eq_true.2 fun j hj => h j (by simpa using hj)
theorem thingAt_eq {ts : List ThingD} {i : Nat} (hi : i < ts.length) : thingAt ts i = (thingB (ts[i]'hi) && (i == 0 || Op.bytesLess ((ts[i - 1]?).getD ([], [], [])).1 (ts[i]'hi).1)) := by
  unfold thingAt
  rw [get_lt hi]

/-! impl.finiteVector -/
noncomputable def c_impl_finiteVector : Ctx := mkC Tryz.prog tyT [(70, s_impl_finite)] [] [] 11 (fun _ => none) 0
theorem w_impl_finiteVector (u : V3) (K : V → Heap → Prop) : wpFn c_impl_finiteVector Tryz.f49 (encAs [.agg tV] (u, ())) [] K =
  K (.bool (!List.any [Prod.fst u, Prod.fst (Prod.snd u), Prod.snd (Prod.snd u)] fun x => !finN x)) [] := by kernel_rfl
noncomputable def s_impl_finiteVector : Sm := semT [.agg tV] fun x => match x with | (u, _) => .bool (finV u)
theorem ok_impl_finiteVector : FnOk Tryz.prog 49 s_impl_finiteVector := fnOk_typed (fnOk_runC (C := c_impl_finiteVector) rfl mixed (.cons ok_impl_finite .nil) .nil .nil Tryz.func49 (by kernel_rfl)) fun (x : ((V3) × Unit)) wf K h => by
  obtain ⟨u, ⟨⟩⟩ := x
  replace h : K (.bool (finV u)) [] := h
  rw [w_impl_finiteVector u K]
  have : (!List.any [u.1, u.2.1, u.2.2] fun x => !finN x) = finV u := by
    unfold finV
    simp only [List.any_cons, List.any_nil, Bool.not_or, Bool.not_not, Bool.not_false, Bool.and_true]
  rw [this]
  exact h

/-! spec.l01VFinite -/
noncomputable def c_spec_l01VFinite : Ctx := mkC Tryz.prog tyT [(90, s_spec_l01Finite)] [] [] 16 (fun _ => none) 0
theorem w_spec_l01VFinite (u : V3) (K : V → Heap → Prop) : wpFn c_spec_l01VFinite Tryz.f66 (encAs [.agg tV] (u, ())) [] K =
  cond (finN (Prod.fst u))
    (cond (finN (Prod.fst (Prod.snd u)))
      (K (.bool (finN (Prod.snd (Prod.snd u)))) [])
      (K (.bool false) []))
    (K (.bool false) []) := by kernel_rfl
noncomputable def s_spec_l01VFinite : Sm := semT [.agg tV] fun x => match x with | (u, _) => .bool (finV u)
theorem ok_spec_l01VFinite : FnOk Tryz.prog 66 s_spec_l01VFinite := fnOk_typed (fnOk_runC (C := c_spec_l01VFinite) rfl mixed (.cons ok_spec_l01Finite .nil) .nil .nil Tryz.func66 (by kernel_rfl)) fun (x : ((V3) × Unit)) wf K h => by
  obtain ⟨u, ⟨⟩⟩ := x
  replace h : K (.bool (finV u)) [] := h
  rw [w_spec_l01VFinite u K]
  revert h
  unfold finV
  cases finN u.1 <;> cases finN u.2.1 <;> exact id

/-! spec.l10Keys -/
noncomputable def a_spec_l10Keys : Nat → Option Ann := fun n => bif Nat.beq n 5 then some ⟨[0,3,4],0,false⟩ else none
noncomputable def c_spec_l10Keys : Ctx := mkC Tryz.prog tyT [(65, s_spec_l00In), (66, s_spec_l01VFinite)] [] [] 42 a_spec_l10Keys 0
noncomputable def fr_spec_l10Keys_5 (ks : List KeyD) (n i : Int) : Fr := [(0, .vec tK ks), (3, .int .i64 n), (4, .int .i64 i)]
theorem r_spec_l10Keys_5 (ks : List KeyD) (n i : Int) (Kn : Fr → Heap → Prop) (K : V → Heap → Prop) : round c_spec_l10Keys ⟨[0,3,4],0,false⟩ (lb c_spec_l10Keys 5 Tryz.f44) (fr_spec_l10Keys_5 ks n i) [] Kn (lk c_spec_l10Keys 5 Tryz.f44 [] K) =
  cond (decide (i < (↑(List.length ks) : Int)))
    (cond (decide (0 ≤ i))
      ((match ks[Int.toNat i]? with
        | some y0 => cond (!inR (Prod.fst y0) (IntKind.wrap IntKind.i64 (n + 1)) 10000)
          (K (.bool false) [])
          (cond (decide (0 ≤ i))
            ((match ks[Int.toNat i]? with
              | some y1 => cond (!finV (Prod.snd y1))
                (K (.bool false) [])
                (cond (decide (0 ≤ i))
                  ((match ks[Int.toNat i]? with
                    | some y2 => Kn [(0, (.vec (.pair (.int .i64) (.pair (.float .f32) (.pair (.float .f32) (.float .f32)))) (ks))), (3, (.int .i64 (Prod.fst y2))), (4, (.int .i64 (IntKind.wrap IntKind.i64 (i + 1))))] []
                    | none => False))
                  (False))
              | none => False))
            (False))
        | none => False))
      (False))
    (K (.bool true) []) := by kernel_rfl
theorem w_spec_l10Keys (ks : List KeyD) (K : V → Heap → Prop) : wpFn c_spec_l10Keys Tryz.f44 (encAs [.cell (.slice tK)] (ks, ())) [] K =
  cond (decide ((↑(List.length ks) : Int) < 1))
    (K (.bool false) [])
    (cond (decide ((↑(List.length ks) : Int) > 8))
      (K (.bool false) [])
      (LoopE c_spec_l10Keys ⟨[0, 3, 4], 0, false⟩ (lb c_spec_l10Keys 5 Tryz.f44) [(0, (.vec (.pair (.int .i64) (.pair (.float .f32) (.pair (.float .f32) (.float .f32)))) (ks))), (3, (.int .i64 (-1))), (4, (.int .i64 0))] [] (lk c_spec_l10Keys 5 Tryz.f44 [] K))) := by kernel_rfl
noncomputable def s_spec_l10Keys : Sm := semT [.cell (.slice tK)] fun x => match x with | (ks, _) => .bool (keysB ks)
theorem ok_spec_l10Keys : FnOk Tryz.prog 44 s_spec_l10Keys := fnOk_typed (fnOk_runC (C := c_spec_l10Keys) rfl mixed (.cons ok_spec_l00In (.cons ok_spec_l01VFinite .nil)) .nil .nil Tryz.func44 (by kernel_rfl)) fun (x : ((List KeyD) × Unit)) wf K h => by
  obtain ⟨ks, ⟨⟩⟩ := x
  replace h : K (.bool (keysB ks)) [] := h
  rw [w_spec_l10Keys ks K]
  obtain ⟨⟨wl, _⟩, _⟩ := wf
  have wl : ks.length ≤ 9223372036854775807 := wl
  cases hin : inR (ks.length : Int) 1 8 with
  | false =>
    have : keysB ks = false := by unfold keysB; rw [hin]; rfl
    rw [this] at h
    have hn : ¬ (1 ≤ (ks.length : Int) ∧ (ks.length : Int) ≤ 8) := fun e => by rw [inR_iff.2 e] at hin; cases hin
    by_cases h1 : (ks.length : Int) < 1
    · simp only [h1, decide_true, cond_true]; exact h
    · have h2 : (ks.length : Int) > 8 := by omega
      simp only [h1, h2, decide_true, decide_false, cond_true, cond_false]; exact h
  | true =>
    have hr := inR_iff.1 hin
    have h1 : ¬ (ks.length : Int) < 1 := by omega
    have h2 : ¬ (ks.length : Int) > 8 := by omega
    have hv : keysB ks = keysUp ks := by unfold keysB; rw [hin]; rfl
    rw [hv] at h
    simp only [h1, h2, decide_false, cond_false]
    refine loop_run (σ := Nat) (fun i => fr_spec_l10Keys_5 ks (bif i == 0 then -1 else ((ks[i - 1]?).getD (0, 0, 0, 0)).1) i) (fun _ => []) (fun i => i ≤ ks.length ∧ ∀ j, j < i → keyAt ks j = true) (fun i => ks.length - i) ?_ 0 ⟨Nat.zero_le _, fun j hj => by omega⟩
    intro i hi Kn hk
    generalize hl : (bif i == 0 then -1 else ((ks[i - 1]?).getD (0, 0, 0, 0)).1 : Int) = l
    have hlr : -1 ≤ l ∧ l ≤ 10000 := by
      subst hl
      by_cases h0 : i = 0
      · subst h0; exact ⟨Int.le_refl _, show (-1 : Int) ≤ 10000 by omega⟩
      · have hp : i - 1 < ks.length := by omega
        have := keyAt_in hp (hi.2 (i - 1) (by omega))
        rw [beq_eq_false_iff_ne.2 h0, get_lt hp]
        simp only [cond_false, Option.getD_some]
        omega
    rw [r_spec_l10Keys_5 ks l i Kn K]
    by_cases hlt : i < ks.length
    · simp only [d_lt hlt, d_0, cond_true, Int.toNat_natCast, get_lt hlt]
      rw [i64_of (n := l + 1) (by omega) (by omega), i64_of (n := (i : Int) + 1) (by omega) (by omega)]
      have hq : keyAt ks i = (inR (ks[i]'hlt).1 (l + 1) 10000 && finV (ks[i]'hlt).2) := by
        rw [keyAt_eq hlt]
        by_cases h0 : i = 0
        · subst h0
          have : l = -1 := hl.symm
          subst this
          simp only [beq_self_eq_true, Bool.true_or, Bool.and_true]
          rfl
        · have hp : i - 1 < ks.length := by omega
          have hk0 := keyAt_in hp (hi.2 (i - 1) (by omega))
          rw [beq_eq_false_iff_ne.2 h0, get_lt hp, cond_false, Option.getD_some] at hl
          rw [beq_eq_false_iff_ne.2 h0, get_lt hp, Option.getD_some, Bool.false_or, hl]
          rw [hl] at hk0
          cases finV (ks[i]'hlt).2 with
          | false => simp
          | true =>
            rw [Bool.true_and, Bool.and_true, Bool.eq_iff_iff, Bool.and_eq_true, inR_iff, inR_iff, decide_eq_true_eq]
            omega
      have hn : (bif i + 1 == 0 then -1 else ((ks[i + 1 - 1]?).getD (0, 0, 0, 0)).1 : Int) = (ks[i]'hlt).1 := by
        rw [show (i + 1 == 0) = false from rfl, Nat.add_sub_cancel, get_lt hlt]
        rfl
      have next : keyAt ks i = true → Kn (fr_spec_l10Keys_5 ks (ks[i]'hlt).1 ((i : Int) + 1)) [] := fun e => by
        have := hk (i + 1) ⟨hlt, fun j hj => (Nat.lt_or_ge j i).elim (hi.2 j) fun h' => (show j = i by omega) ▸ e⟩ (by omega)
        rw [hn] at this
        exact this
      have no : keyAt ks i = false → K (.bool false) [] := fun e => by rw [keys_no hlt e] at h; exact h
      rw [hq] at no next
      cases e1 : inR (ks[i]'hlt).1 (l + 1) 10000 with
      | false => exact no (by rw [e1]; rfl)
      | true =>
        rw [e1, Bool.true_and] at no next
        simp only [Bool.not_true, cond_false]
        cases e2 : finV (ks[i]'hlt).2 with
        | false => exact no e2
        | true => exact next e2
    · have : i = ks.length := by omega
      subst this
      simp only [d_nlt hlt, cond_false]
      rw [keys_yes hi.2] at h
      exact h

/-! (*impl.Thing).ok -/
noncomputable def a_impl_Thing_ok : Nat → Option Ann := fun n => bif Nat.beq n 2 then some ⟨[0,8,9,10],0,false⟩ else none
noncomputable def c_impl_Thing_ok : Ctx := mkC Tryz.prog tyT [(48, s_impl_in), (49, s_impl_finiteVector), (50, s_impl_IsName), (51, s_impl_ValidShape)] [] [] 64 a_impl_Thing_ok 0
noncomputable def fr_impl_Thing_ok_2 (s : Str) (ns : ShapeD) (ks : List KeyD) (n i : Int) : Fr := [(0, .ref [.str s, .vec tN ns, .vec tK ks] 0), (8, .vec tK ks), (9, .int .i64 n), (10, .int .i64 i)]
theorem r_impl_Thing_ok_2 (s : Str) (ns : ShapeD) (ks : List KeyD) (n i : Int) (Kn : Fr → Heap → Prop) (K : V → Heap → Prop) : round c_impl_Thing_ok ⟨[0,8,9,10],0,false⟩ (lb c_impl_Thing_ok 2 Tryz.f29) (fr_impl_Thing_ok_2 s ns ks n i) [] Kn (lk c_impl_Thing_ok 2 Tryz.f29 [] K) =
  cond (decide (i < n))
    (cond (decide (0 ≤ i))
      ((match ks[Int.toNat i]? with
        | some y0 => cond (!inR (Prod.fst y0) 0 10000)
          (K (.bool false) [])
          (cond (!finV (Prod.snd y0))
            (K (.bool false) [])
            (cond (decide (i > 0))
              (cond (decide (0 ≤ IntKind.wrap IntKind.i64 (i - 1)))
                ((match ks[Int.toNat (IntKind.wrap IntKind.i64 (i - 1))]? with
                  | some y1 => cond (decide (Prod.fst y1 ≥ Prod.fst y0))
                    (K (.bool false) [])
                    (Kn [(0, (.ref [(.str (s)), (.vec (.pair (.int .i64) (.pair (.int .i64) (.pair (.int .i64) (.slice (.float .f32))))) (ns)), (.vec (.pair (.int .i64) (.pair (.float .f32) (.pair (.float .f32) (.float .f32)))) (ks))] 0)), (8, (.vec (.pair (.int .i64) (.pair (.float .f32) (.pair (.float .f32) (.float .f32)))) (ks))), (9, (.int .i64 (n))), (10, (.int .i64 (IntKind.wrap IntKind.i64 (i + 1))))] [])
                  | none => False))
                (False))
              (Kn [(0, (.ref [(.str (s)), (.vec (.pair (.int .i64) (.pair (.int .i64) (.pair (.int .i64) (.slice (.float .f32))))) (ns)), (.vec (.pair (.int .i64) (.pair (.float .f32) (.pair (.float .f32) (.float .f32)))) (ks))] 0)), (8, (.vec (.pair (.int .i64) (.pair (.float .f32) (.pair (.float .f32) (.float .f32)))) (ks))), (9, (.int .i64 (n))), (10, (.int .i64 (IntKind.wrap IntKind.i64 (i + 1))))] [])))
        | none => False))
      (False))
    (cond (nameB s)
      (cond (validS ns)
        (K (.bool (inR (↑(List.length ks) : Int) 1 8)) [])
        (K (.bool false) []))
      (K (.bool false) [])) := by kernel_rfl
theorem w_impl_Thing_ok (s : Str) (ns : ShapeD) (ks : List KeyD) (K : V → Heap → Prop) : wpFn c_impl_Thing_ok Tryz.f29 (encAs [.ref tT] ((s, ns, ks), ())) [] K =
  LoopE c_impl_Thing_ok ⟨[0, 8, 9, 10], 0, false⟩ (lb c_impl_Thing_ok 2 Tryz.f29) [(0, (.ref [(.str (s)), (.vec (.pair (.int .i64) (.pair (.int .i64) (.pair (.int .i64) (.slice (.float .f32))))) (ns)), (.vec (.pair (.int .i64) (.pair (.float .f32) (.pair (.float .f32) (.float .f32)))) (ks))] 0)), (8, (.vec (.pair (.int .i64) (.pair (.float .f32) (.pair (.float .f32) (.float .f32)))) (ks))), (9, (.int .i64 ((↑(List.length ks) : Int)))), (10, (.int .i64 0))] [] (lk c_impl_Thing_ok 2 Tryz.f29 [] K) := by kernel_rfl
noncomputable def s_impl_Thing_ok : Sm := semT [.ref tT] fun x => match x with | ((s, ns, ks), _) => .bool (thingB (s, ns, ks))
theorem ok_impl_Thing_ok : FnOk Tryz.prog 29 s_impl_Thing_ok := fnOk_typed (fnOk_runC (C := c_impl_Thing_ok) rfl mixed (.cons ok_impl_in (.cons ok_impl_finiteVector (.cons ok_impl_IsName (.cons ok_impl_ValidShape .nil)))) .nil .nil Tryz.func29 (by kernel_rfl)) fun (x : (((Str) × (ShapeD) × (List KeyD)) × Unit)) wf K h => by
  obtain ⟨⟨s, ns, ks⟩, ⟨⟩⟩ := x
  replace h : K (.bool (thingB (s, ns, ks))) [] := h
  rw [w_impl_Thing_ok s ns ks K]
  obtain ⟨⟨_, _, wl, _⟩, _⟩ := wf
  have wl : ks.length ≤ 9223372036854775807 := wl
  have hT : thingB (s, ns, ks) = (nameB s && (validS ns && (inR ks.length 1 8 && keysUp ks))) := rfl
  rw [hT] at h
  refine loop_run (σ := Nat) (fun i => fr_impl_Thing_ok_2 s ns ks ks.length i) (fun _ => []) (fun i => i ≤ ks.length ∧ ∀ j, j < i → keyAt ks j = true) (fun i => ks.length - i) ?_ 0 ⟨Nat.zero_le _, fun j hj => by omega⟩
  intro i hi Kn hk
  rw [r_impl_Thing_ok_2 s ns ks ks.length i Kn K]
  by_cases hlt : i < ks.length
  · simp only [d_lt hlt, d_0, cond_true, Int.toNat_natCast, get_lt hlt]
    rw [i64_of (n := (i : Int) + 1) (by omega) (by omega)]
    have next : keyAt ks i = true → Kn (fr_impl_Thing_ok_2 s ns ks ks.length ((i : Int) + 1)) [] := fun e =>
      hk (i + 1) ⟨hlt, fun j hj => (Nat.lt_or_ge j i).elim (hi.2 j) fun h' => (show j = i by omega) ▸ e⟩ (by omega)
    have no : keyAt ks i = false → K (.bool false) [] := fun e => by
      rw [keys_no hlt e, Bool.and_false, Bool.and_false, Bool.and_false] at h
      exact h
    rw [keyAt_eq hlt] at no next
    cases e1 : inR (ks[i]'hlt).1 0 10000 with
    | false => exact no (by rw [e1]; rfl)
    | true =>
      rw [e1, Bool.true_and] at no next
      simp only [Bool.not_true, cond_false]
      cases e2 : finV (ks[i]'hlt).2 with
      | false => exact no (by rw [e2]; rfl)
      | true =>
        rw [e2, Bool.true_and] at no next
        simp only [Bool.not_true, cond_false]
        by_cases h0 : i = 0
        · subst h0
          exact next rfl
        · have hp : i - 1 < ks.length := by omega
          simp only [d_t (show (i : Int) > 0 by omega), cond_true]
          rw [i64_of (n := (i : Int) - 1) (by omega) (by omega), show ((i : Int) - 1).toNat = i - 1 by omega, get_lt hp]
          simp only [d_t (show (0 : Int) ≤ (i : Int) - 1 by omega), cond_true]
          rw [beq_eq_false_iff_ne.2 h0, get_lt hp, Option.getD_some, Bool.false_or] at no next
          by_cases e3 : (ks[i - 1]'hp).1 < (ks[i]'hlt).1
          · rw [d_f (show ¬ (ks[i - 1]'hp).1 ≥ (ks[i]'hlt).1 by omega)]
            exact next (d_t e3)
          · rw [d_t (show (ks[i - 1]'hp).1 ≥ (ks[i]'hlt).1 by omega)]
            exact no (d_f e3)
  · have : i = ks.length := by omega
    subst this
    simp only [d_nlt hlt, cond_false]
    rw [keys_yes hi.2, Bool.and_true] at h
    revert h
    cases nameB s <;> cases validS ns <;> exact id

/-! spec.l10Thing -/
noncomputable def c_spec_l10Thing : Ctx := mkC Tryz.prog tyT [(42, s_spec_IsName), (43, s_spec_l02Is), (44, s_spec_l10Keys)] [] [] 21 (fun _ => none) 0
theorem w_spec_l10Thing (s : Str) (ns : ShapeD) (ks : List KeyD) (K : V → Heap → Prop) : wpFn c_spec_l10Thing Tryz.f22 (encAs [.ref tT] ((s, ns, ks), ())) [] K =
  cond (nameB s)
    (cond (validS ns)
      (K (.bool (keysB ks)) [])
      (K (.bool false) []))
    (K (.bool false) []) := by kernel_rfl
noncomputable def s_spec_l10Thing : Sm := semT [.ref tT] fun x => match x with | ((s, ns, ks), _) => .bool (thingB (s, ns, ks))
theorem ok_spec_l10Thing : FnOk Tryz.prog 22 s_spec_l10Thing := fnOk_typed (fnOk_runC (C := c_spec_l10Thing) rfl mixed (.cons ok_spec_IsName (.cons ok_spec_l02Is (.cons ok_spec_l10Keys .nil))) .nil .nil Tryz.func22 (by kernel_rfl)) fun (x : (((Str) × (ShapeD) × (List KeyD)) × Unit)) wf K h => by
  obtain ⟨⟨s, ns, ks⟩, ⟨⟩⟩ := x
  replace h : K (.bool (thingB (s, ns, ks))) [] := h
  rw [w_spec_l10Thing s ns ks K]
  have hT : thingB (s, ns, ks) = (nameB s && (validS ns && keysB ks)) := rfl
  rw [hT] at h
  revert h
  cases nameB s <;> cases validS ns <;> exact id

/-! impl.ValidScene -/
noncomputable def a_impl_ValidScene : Nat → Option Ann := fun n => bif Nat.beq n 2 then some ⟨[1,6,7],1,false⟩ else none
noncomputable def c_impl_ValidScene : Ctx := mkC Tryz.prog tyT [(29, s_impl_Thing_ok)] [] [] 41 a_impl_ValidScene 0
noncomputable def fr_impl_ValidScene_2 (ts : List ThingD) (n i : Int) : Fr := [(1, .ptr 0 0), (6, .int .i64 n), (7, .int .i64 i)]
noncomputable def hp_impl_ValidScene_2 (ts : List ThingD) (n i : Int) : Heap := [.box [.vec tT ts]]
theorem r_impl_ValidScene_2 (ts : List ThingD) (n i : Int) (Kn : Fr → Heap → Prop) (K : V → Heap → Prop) : round c_impl_ValidScene ⟨[1,6,7],1,false⟩ (lb c_impl_ValidScene 2 Tryz.f28) (fr_impl_ValidScene_2 ts n i) (hp_impl_ValidScene_2 ts n i) Kn (lk c_impl_ValidScene 2 Tryz.f28 [] K) =
  cond (decide (i < n))
    (cond (decide (0 ≤ i))
      ((match ts[Int.toNat i]? with
        | some y0 => cond (!thingB y0)
          (K (.bool false) [])
          (cond (decide (i > 0))
            (cond (decide (0 ≤ IntKind.wrap IntKind.i64 (i - 1)))
              ((match ts[Int.toNat (IntKind.wrap IntKind.i64 (i - 1))]? with
                | some y1 => cond (decide (0 ≤ i))
                  ((match ts[Int.toNat i]? with
                    | some y2 => cond (!Op.bytesLess (Prod.fst y1) (Prod.fst y2))
                      (K (.bool false) [])
                      (Kn [(1, (.ptr 0 0)), (6, (.int .i64 (n))), (7, (.int .i64 (IntKind.wrap IntKind.i64 (i + 1))))] [(.box [(.vec (.pair .str (.pair (.slice (.pair (.int .i64) (.pair (.int .i64) (.pair (.int .i64) (.slice (.float .f32)))))) (.slice (.pair (.int .i64) (.pair (.float .f32) (.pair (.float .f32) (.float .f32))))))) (ts))])])
                    | none => False))
                  (False)
                | none => False))
              (False))
            (Kn [(1, (.ptr 0 0)), (6, (.int .i64 (n))), (7, (.int .i64 (IntKind.wrap IntKind.i64 (i + 1))))] [(.box [(.vec (.pair .str (.pair (.slice (.pair (.int .i64) (.pair (.int .i64) (.pair (.int .i64) (.slice (.float .f32)))))) (.slice (.pair (.int .i64) (.pair (.float .f32) (.pair (.float .f32) (.float .f32))))))) (ts))])]))
        | none => False))
      (False))
    (K (.bool (decide ((↑(List.length ts) : Int) ≤ 8))) []) := by kernel_rfl
theorem w_impl_ValidScene (ts : List ThingD) (K : V → Heap → Prop) : wpFn c_impl_ValidScene Tryz.f28 (encAs [.agg (.slice tT)] (ts, ())) [] K =
  LoopE c_impl_ValidScene ⟨[1, 6, 7], 1, false⟩ (lb c_impl_ValidScene 2 Tryz.f28) [(1, (.ptr 0 0)), (6, (.int .i64 ((↑(List.length ts) : Int)))), (7, (.int .i64 0))] [(.box [(.vec (.pair .str (.pair (.slice (.pair (.int .i64) (.pair (.int .i64) (.pair (.int .i64) (.slice (.float .f32)))))) (.slice (.pair (.int .i64) (.pair (.float .f32) (.pair (.float .f32) (.float .f32))))))) (ts))])] (lk c_impl_ValidScene 2 Tryz.f28 [] K) := by kernel_rfl
noncomputable def s_impl_ValidScene : Sm := semT [.agg (.slice tT)] fun x => match x with | (ts, _) => .bool (sceneB ts)
theorem ok_impl_ValidScene : FnOk Tryz.prog 28 s_impl_ValidScene := fnOk_typed (fnOk_runC (C := c_impl_ValidScene) rfl mixed (.cons ok_impl_Thing_ok .nil) .nil .nil Tryz.func28 (by kernel_rfl)) fun (x : ((List ThingD) × Unit)) wf K h => by
  obtain ⟨ts, ⟨⟩⟩ := x
  replace h : K (.bool (sceneB ts)) [] := h
  rw [w_impl_ValidScene ts K]
  obtain ⟨⟨wl, _⟩, _⟩ := wf
  have wl : ts.length ≤ 9223372036854775807 := wl
  unfold sceneB at h
  refine loop_run (σ := Nat) (fun i => fr_impl_ValidScene_2 ts ts.length i) (fun i => hp_impl_ValidScene_2 ts ts.length i) (fun i => i ≤ ts.length ∧ ∀ j, j < i → thingAt ts j = true) (fun i => ts.length - i) ?_ 0 ⟨Nat.zero_le _, fun j hj => by omega⟩
  intro i hi Kn hk
  rw [r_impl_ValidScene_2 ts ts.length i Kn K]
  by_cases hlt : i < ts.length
  · simp only [d_lt hlt, d_0, cond_true, Int.toNat_natCast, get_lt hlt]
    rw [i64_of (n := (i : Int) + 1) (by omega) (by omega)]
    have next : thingAt ts i = true → Kn (fr_impl_ValidScene_2 ts ts.length ((i : Int) + 1)) (hp_impl_ValidScene_2 ts ts.length i) := fun e =>
      hk (i + 1) ⟨hlt, fun j hj => (Nat.lt_or_ge j i).elim (hi.2 j) fun h' => (show j = i by omega) ▸ e⟩ (by omega)
    have no : thingAt ts i = false → K (.bool false) [] := fun e => by
      rw [things_no hlt e] at h
      exact h
    rw [thingAt_eq hlt] at no next
    change cond (!thingB (ts[i]'hlt)) _ _
    cases e1 : thingB (ts[i]'hlt) with
    | false => exact no (by rw [e1]; rfl)
    | true =>
      rw [e1, Bool.true_and] at no next
      simp only [Bool.not_true, cond_false]
      by_cases h0 : i = 0
      · subst h0
        exact next rfl
      · have hp : i - 1 < ts.length := by omega
        simp only [d_t (show (i : Int) > 0 by omega), cond_true]
        rw [i64_of (n := (i : Int) - 1) (by omega) (by omega), show ((i : Int) - 1).toNat = i - 1 by omega, get_lt hp]
        simp only [d_t (show (0 : Int) ≤ (i : Int) - 1 by omega), cond_true]
        rw [beq_eq_false_iff_ne.2 h0, get_lt hp, Option.getD_some, Bool.false_or] at no next
        cases e2 : Op.bytesLess (ts[i - 1]'hp).1 (ts[i]'hlt).1 with
        | false => exact no e2
        | true => exact next e2
  · have : i = ts.length := by omega
    subst this
    simp only [d_nlt hlt, cond_false]
    rw [things_yes hi.2, Bool.true_and] at h
    rw [show decide ((ts.length : Int) ≤ 8) = decide (ts.length ≤ 8) from decide_eq_decide.2 (by omega)]
    exact h

/-! spec.l10Is -/
noncomputable def a_spec_l10Is : Nat → Option Ann := fun n => bif Nat.beq n 4 then some ⟨[0,3],0,false⟩ else none
noncomputable def c_spec_l10Is : Ctx := mkC Tryz.prog tyT [(22, s_spec_l10Thing)] [] [] 51 a_spec_l10Is 0
noncomputable def fr_spec_l10Is_4 (ts : List ThingD) (i : Int) : Fr := [(0, .ref [.vec tT ts] 0), (3, .int .i64 i)]
theorem r_spec_l10Is_4 (ts : List ThingD) (i : Int) (Kn : Fr → Heap → Prop) (K : V → Heap → Prop) : round c_spec_l10Is ⟨[0,3],0,false⟩ (lb c_spec_l10Is 4 Tryz.f21) (fr_spec_l10Is_4 ts i) [] Kn (lk c_spec_l10Is 4 Tryz.f21 [] K) =
  cond (decide (i < (↑(List.length ts) : Int)))
    (cond (decide (0 ≤ i))
      ((match ts[Int.toNat i]? with
        | some y0 => cond (!thingB y0)
          (K (.bool false) [])
          (cond (decide (i > 0))
            (cond (decide (0 ≤ IntKind.wrap IntKind.i64 (i - 1)))
              ((match ts[Int.toNat (IntKind.wrap IntKind.i64 (i - 1))]? with
                | some y1 => cond (decide (0 ≤ i))
                  ((match ts[Int.toNat i]? with
                    | some y2 => cond (!Op.bytesLess (Prod.fst y1) (Prod.fst y2))
                      (K (.bool false) [])
                      (Kn [(0, (.ref [(.vec (.pair .str (.pair (.slice (.pair (.int .i64) (.pair (.int .i64) (.pair (.int .i64) (.slice (.float .f32)))))) (.slice (.pair (.int .i64) (.pair (.float .f32) (.pair (.float .f32) (.float .f32))))))) (ts))] 0)), (3, (.int .i64 (IntKind.wrap IntKind.i64 (i + 1))))] [])
                    | none => False))
                  (False)
                | none => False))
              (False))
            (Kn [(0, (.ref [(.vec (.pair .str (.pair (.slice (.pair (.int .i64) (.pair (.int .i64) (.pair (.int .i64) (.slice (.float .f32)))))) (.slice (.pair (.int .i64) (.pair (.float .f32) (.pair (.float .f32) (.float .f32))))))) (ts))] 0)), (3, (.int .i64 (IntKind.wrap IntKind.i64 (i + 1))))] []))
        | none => False))
      (False))
    (K (.bool true) []) := by kernel_rfl
theorem w_spec_l10Is (ts : List ThingD) (K : V → Heap → Prop) : wpFn c_spec_l10Is Tryz.f21 (encAs [.ref (.slice tT)] (ts, ())) [] K =
  cond (decide ((↑(List.length ts) : Int) > 8))
    (K (.bool false) [])
    (LoopE c_spec_l10Is ⟨[0, 3], 0, false⟩ (lb c_spec_l10Is 4 Tryz.f21) [(0, (.ref [(.vec (.pair .str (.pair (.slice (.pair (.int .i64) (.pair (.int .i64) (.pair (.int .i64) (.slice (.float .f32)))))) (.slice (.pair (.int .i64) (.pair (.float .f32) (.pair (.float .f32) (.float .f32))))))) (ts))] 0)), (3, (.int .i64 0))] [] (lk c_spec_l10Is 4 Tryz.f21 [] K)) := by kernel_rfl
noncomputable def s_spec_l10Is : Sm := semT [.ref (.slice tT)] fun x => match x with | (ts, _) => .bool (sceneB ts)
theorem ok_spec_l10Is : FnOk Tryz.prog 21 s_spec_l10Is := fnOk_typed (fnOk_runC (C := c_spec_l10Is) rfl mixed (.cons ok_spec_l10Thing .nil) .nil .nil Tryz.func21 (by kernel_rfl)) fun (x : ((List ThingD) × Unit)) wf K h => by
  obtain ⟨ts, ⟨⟩⟩ := x
  replace h : K (.bool (sceneB ts)) [] := h
  rw [w_spec_l10Is ts K]
  obtain ⟨⟨wl, _⟩, _⟩ := wf
  have wl : ts.length ≤ 9223372036854775807 := wl
  unfold sceneB at h
  by_cases h8 : (ts.length : Int) > 8
  · simp only [d_t h8, cond_true]
    rw [d_f (show ¬ ts.length ≤ 8 by omega), Bool.and_false] at h
    exact h
  · simp only [d_f h8, cond_false]
    rw [d_t (show ts.length ≤ 8 by omega), Bool.and_true] at h
    refine loop_run (σ := Nat) (fun i => fr_spec_l10Is_4 ts i) (fun _ => []) (fun i => i ≤ ts.length ∧ ∀ j, j < i → thingAt ts j = true) (fun i => ts.length - i) ?_ 0 ⟨Nat.zero_le _, fun j hj => by omega⟩
    intro i hi Kn hk
    rw [r_spec_l10Is_4 ts i Kn K]
    by_cases hlt : i < ts.length
    · simp only [d_lt hlt, d_0, cond_true, Int.toNat_natCast, get_lt hlt]
      rw [i64_of (n := (i : Int) + 1) (by omega) (by omega)]
      have next : thingAt ts i = true → Kn (fr_spec_l10Is_4 ts ((i : Int) + 1)) [] := fun e =>
        hk (i + 1) ⟨hlt, fun j hj => (Nat.lt_or_ge j i).elim (hi.2 j) fun h' => (show j = i by omega) ▸ e⟩ (by omega)
      have no : thingAt ts i = false → K (.bool false) [] := fun e => by
        rw [things_no hlt e] at h
        exact h
      rw [thingAt_eq hlt] at no next
      change cond (!thingB (ts[i]'hlt)) _ _
      cases e1 : thingB (ts[i]'hlt) with
      | false => exact no (by rw [e1]; rfl)
      | true =>
        rw [e1, Bool.true_and] at no next
        simp only [Bool.not_true, cond_false]
        by_cases h0 : i = 0
        · subst h0
          exact next rfl
        · have hp : i - 1 < ts.length := by omega
          simp only [d_t (show (i : Int) > 0 by omega), cond_true]
          rw [i64_of (n := (i : Int) - 1) (by omega) (by omega), show ((i : Int) - 1).toNat = i - 1 by omega, get_lt hp]
          simp only [d_t (show (0 : Int) ≤ (i : Int) - 1 by omega), cond_true]
          rw [beq_eq_false_iff_ne.2 h0, get_lt hp, Option.getD_some, Bool.false_or] at no next
          cases e2 : Op.bytesLess (ts[i - 1]'hp).1 (ts[i]'hlt).1 with
          | false => exact no e2
          | true => exact next e2
    · have : i = ts.length := by omega
      subst this
      simp only [d_nlt hlt, cond_false]
      rw [things_yes hi.2] at h
      exact h


/-! laws.toKey -/
noncomputable def c_laws_toKey : Ctx := mkC Tryz.prog tyT [(69, s_laws_toVector)] [] [] 12 (fun _ => none) 0
theorem w_laws_toKey (k : KeyD) (K : V → Heap → Prop) : wpFn c_laws_toKey Tryz.f47 (encAs [.agg tK] (k, ())) [] K =
  K (.agg [(.int .i64 (Prod.fst k)), (.float .f32 (Prod.fst (Prod.snd k))), (.float .f32 (Prod.fst (Prod.snd (Prod.snd k)))), (.float .f32 (Prod.snd (Prod.snd (Prod.snd k))))]) [] := by kernel_rfl
noncomputable def s_laws_toKey : Sm := semT [.agg tK] fun x => match x with | (k, _) => .agg (enc tK k)
theorem ok_laws_toKey : FnOk Tryz.prog 47 s_laws_toKey := fnOk_typed (fnOk_runC (C := c_laws_toKey) rfl mixed (.cons ok_laws_toVector .nil) .nil .nil Tryz.func47 (by kernel_rfl)) fun (x : ((KeyD) × Unit)) wf K h => by
  obtain ⟨k, ⟨⟩⟩ := x
  replace h : K (.agg (enc tK k)) [] := h
  rw [w_laws_toKey k K]
  exact h

/-! laws.toKeyS -/
noncomputable def a_laws_toKeyS : Nat → Option Ann := fun n => bif Nat.beq n 3 then some ⟨[0,3,4],1,false⟩ else none
noncomputable def c_laws_toKeyS : Ctx := mkC Tryz.prog tyT [(47, s_laws_toKey)] [] [] 23 a_laws_toKeyS 0
noncomputable def fr_laws_toKeyS_3 (xs ys : List (KeyD)) (i : Int) : Fr := [(0, .vec (tK) xs), (3, .obj 0 0), (4, .int .i64 i)]
noncomputable def hp_laws_toKeyS_3 (xs ys : List (KeyD)) (i : Int) : Heap := [.sl 0 (tK) ys]
theorem r_laws_toKeyS_3 (xs ys : List (KeyD)) (i : Int) (Kn : Fr → Heap → Prop) (K : V → Heap → Prop) : round c_laws_toKeyS ⟨[0,3,4],1,false⟩ (lb c_laws_toKeyS 3 Tryz.f27) (fr_laws_toKeyS_3 xs ys i) (hp_laws_toKeyS_3 xs ys i) Kn (lk c_laws_toKeyS 3 Tryz.f27 [] K) =
  cond (decide (i < (↑(List.length xs) : Int)))
    (cond (decide (0 ≤ i))
      ((match xs[Int.toNat i]? with
        | some y0 => cond (decide (0 ≤ i) && Nat.blt (Int.toNat i) (List.length ys))
          ((match ys[Int.toNat i]? with
            | some x1 => Kn [(0, (.vec (.pair (.int .i64) (.pair (.float .f32) (.pair (.float .f32) (.float .f32)))) (xs))), (3, (.obj 0 0)), (4, (.int .i64 (IntKind.wrap IntKind.i64 (i + 1))))] [(.sl 0 (.pair (.int .i64) (.pair (.float .f32) (.pair (.float .f32) (.float .f32)))) (List.set ys (Int.toNat i) y0))]
            | none => False))
          (False)
        | none => False))
      (False))
    (K (.vec (.pair (.int .i64) (.pair (.float .f32) (.pair (.float .f32) (.float .f32)))) (ys)) []) := by kernel_rfl
theorem w_laws_toKeyS (xs : List (KeyD)) (K : V → Heap → Prop) : wpFn c_laws_toKeyS Tryz.f27 (encAs [.cell (.slice (tK))] (xs, ())) [] K =
  cond (decide (0 ≤ (↑(List.length xs) : Int)) && (decide ((↑(List.length xs) : Int) ≤ (↑(List.length xs) : Int)) && decide ((↑24 : Int) * (↑(List.length xs) : Int) ≤ 281474976710656)))
    (LoopE c_laws_toKeyS ⟨[0, 3, 4], 1, false⟩ (lb c_laws_toKeyS 3 Tryz.f27) [(0, (.vec (.pair (.int .i64) (.pair (.float .f32) (.pair (.float .f32) (.float .f32)))) (xs))), (3, (.obj 0 0)), (4, (.int .i64 0))] [(.sl 0 (.pair (.int .i64) (.pair (.float .f32) (.pair (.float .f32) (.float .f32)))) (List.replicate (Int.toNat (↑(List.length xs) : Int)) (0, 0, 0, 0)))] (lk c_laws_toKeyS 3 Tryz.f27 [] K))
    (False) := by kernel_rfl
noncomputable def s_laws_toKeyS : Sm := semG [.cell (.slice (tK))] (fun x => match x with | (xs, _) => decide (xs.length ≤ 1048576)) fun x => match x with | (xs, _) => .vec (tK) xs
theorem ok_laws_toKeyS : FnOk Tryz.prog 27 s_laws_toKeyS := fnOk_typedG (fnOk_runC (C := c_laws_toKeyS) rfl mixed (.cons ok_laws_toKey .nil) .nil .nil Tryz.func27 (by kernel_rfl)) fun (x : ((List (KeyD)) × Unit)) wf hg K h => by
  obtain ⟨xs, ⟨⟩⟩ := x
  replace hg : (decide (xs.length ≤ 1048576)) = true := hg
  replace h : K (.vec (tK) xs) [] := h
  rw [w_laws_toKeyS xs K]
  simp only [decide_eq_true_eq] at hg
  skip
  rw [d_0, d_t (Int.le_refl _), d_t (by omega)]
  simp only [Bool.and_self, cond_true, Int.toNat_natCast]
  refine loop_run (σ := Nat) (fun i => fr_laws_toKeyS_3 xs [] i) (fun i => hp_laws_toKeyS_3 xs (xs.take i ++ List.replicate (xs.length - i) (0, 0, 0, 0)) i) (fun i => i ≤ xs.length) (fun i => xs.length - i) ?_ 0 (Nat.zero_le _)
  intro i hi Kn hk
  rw [show fr_laws_toKeyS_3 xs [] i = fr_laws_toKeyS_3 xs (xs.take i ++ List.replicate (xs.length - i) (0, 0, 0, 0)) i from rfl, r_laws_toKeyS_3 xs (xs.take i ++ List.replicate (xs.length - i) (0, 0, 0, 0)) i Kn K]
  by_cases hlt : i < xs.length
  · have hl : (xs.take i ++ List.replicate (xs.length - i) (0, 0, 0, 0)).length = xs.length := by rw [List.length_append, List.length_take, List.length_replicate]; omega
    have hl' : i < (xs.take i ++ List.replicate (xs.length - i) (0, 0, 0, 0)).length := by omega
    simp only [d_lt hlt, d_0, cond_true, Int.toNat_natCast, get_lt hlt, blt_t hl', get_lt hl', Bool.and_self]
    rw [i64_of (by omega) (by omega), copy_step hlt rfl rfl]
    exact hk (i + 1) hlt (by omega)
  · have : i = xs.length := by omega
    subst this
    simp only [d_nlt hlt, cond_false, List.take_length, Nat.sub_self, List.replicate_zero, List.append_nil]
    exact h

/-! laws.eqKey -/
noncomputable def c_laws_eqKey : Ctx := mkC Tryz.prog tyT [(84, s_laws_eqVector)] [] [] 16 (fun _ => none) 0
theorem w_laws_eqKey (u v : KeyD) (K : V → Heap → Prop) : wpFn c_laws_eqKey Tryz.f56 (encAs [.agg tK, .agg tK] (u, v, ())) [] K =
  cond (Prod.fst u != Prod.fst v)
    (K (.bool false) [])
    (cond (Prod.snd u == Prod.snd v)
      (K (.bool true) [])
      (False)) := by kernel_rfl
noncomputable def s_laws_eqKey : Sm := semG [.agg tK, .agg tK] (fun x => match x with | (u, v, _) => u == v) fun x => match x with | (u, v, _) => .bool true
theorem ok_laws_eqKey : FnOk Tryz.prog 56 s_laws_eqKey := fnOk_typedG (fnOk_runC (C := c_laws_eqKey) rfl mixed (.cons ok_laws_eqVector .nil) .nil .nil Tryz.func56 (by kernel_rfl)) fun (x : ((KeyD) × (KeyD) × Unit)) wf hg K h => by
  obtain ⟨u, v, ⟨⟩⟩ := x
  replace hg : (u == v) = true := hg
  replace h : K (.bool true) [] := h
  rw [w_laws_eqKey u v K]
  have e : u = v := by simpa using hg
  subst e
  simp only [beq_self_eq_true, bne_self_eq_false, cond_true, cond_false, Bool.not_true]
  exact h

/-! laws.eqKeyS -/
noncomputable def a_laws_eqKeyS : Nat → Option Ann := fun n => bif Nat.beq n 4 then some ⟨[0,1,5],0,false⟩ else none
noncomputable def c_laws_eqKeyS : Ctx := mkC Tryz.prog tyT [(56, s_laws_eqKey)] [] [] 27 a_laws_eqKeyS 0
noncomputable def fr_laws_eqKeyS_4 (xs ys : List (KeyD)) (i : Int) : Fr := [(0, .vec (tK) xs), (1, .vec (tK) ys), (5, .int .i64 i)]
theorem r_laws_eqKeyS_4 (xs ys : List (KeyD)) (i : Int) (Kn : Fr → Heap → Prop) (K : V → Heap → Prop) : round c_laws_eqKeyS ⟨[0,1,5],0,false⟩ (lb c_laws_eqKeyS 4 Tryz.f35) (fr_laws_eqKeyS_4 xs ys i) [] Kn (lk c_laws_eqKeyS 4 Tryz.f35 [] K) =
  cond (decide (i < (↑(List.length xs) : Int)))
    (cond (decide (0 ≤ i))
      ((match xs[Int.toNat i]? with
        | some y0 => cond (decide (0 ≤ i))
          ((match ys[Int.toNat i]? with
            | some y1 => cond (y0 == y1)
              (Kn [(0, (.vec (.pair (.int .i64) (.pair (.float .f32) (.pair (.float .f32) (.float .f32)))) (xs))), (1, (.vec (.pair (.int .i64) (.pair (.float .f32) (.pair (.float .f32) (.float .f32)))) (ys))), (5, (.int .i64 (IntKind.wrap IntKind.i64 (i + 1))))] [])
              (False)
            | none => False))
          (False)
        | none => False))
      (False))
    (K (.bool true) []) := by kernel_rfl
theorem w_laws_eqKeyS (xs ys : List (KeyD)) (K : V → Heap → Prop) : wpFn c_laws_eqKeyS Tryz.f35 (encAs [.cell (.slice (tK)), .cell (.slice (tK))] (xs, ys, ())) [] K =
  cond ((↑(List.length xs) : Int) != (↑(List.length ys) : Int))
    (K (.bool false) [])
    (LoopE c_laws_eqKeyS ⟨[0, 1, 5], 0, false⟩ (lb c_laws_eqKeyS 4 Tryz.f35) [(0, (.vec (.pair (.int .i64) (.pair (.float .f32) (.pair (.float .f32) (.float .f32)))) (xs))), (1, (.vec (.pair (.int .i64) (.pair (.float .f32) (.pair (.float .f32) (.float .f32)))) (ys))), (5, (.int .i64 0))] [] (lk c_laws_eqKeyS 4 Tryz.f35 [] K)) := by kernel_rfl
noncomputable def s_laws_eqKeyS : Sm := semG [.cell (.slice (tK)), .cell (.slice (tK))] (fun x => match x with | (xs, ys, _) => xs == ys) fun x => match x with | (xs, ys, _) => .bool true
theorem ok_laws_eqKeyS : FnOk Tryz.prog 35 s_laws_eqKeyS := fnOk_typedG (fnOk_runC (C := c_laws_eqKeyS) rfl mixed (.cons ok_laws_eqKey .nil) .nil .nil Tryz.func35 (by kernel_rfl)) fun (x : ((List (KeyD)) × (List (KeyD)) × Unit)) wf hg K h => by
  obtain ⟨xs, ys, ⟨⟩⟩ := x
  replace hg : (xs == ys) = true := hg
  replace h : K (.bool true) [] := h
  rw [w_laws_eqKeyS xs ys K]
  have e : xs = ys := by simpa using hg
  subst e
  obtain ⟨⟨wl, _⟩, _⟩ := wf
  rw [bne_self_eq_false, cond_false]
  refine loop_run (σ := Nat) (fun i => fr_laws_eqKeyS_4 xs xs i) (fun _ => []) (fun i => i ≤ xs.length) (fun i => xs.length - i) ?_ 0 (Nat.zero_le _)
  intro i hi Kn hk
  rw [r_laws_eqKeyS_4 xs xs i Kn K]
  by_cases hlt : i < xs.length
  · simp only [d_lt hlt, d_0, cond_true, Int.toNat_natCast, get_lt hlt, beq_self_eq_true]
    have hm : xs.length ≤ 9223372036854775807 := wl
    rw [i64_of (by omega) (by omega)]
    exact hk (i + 1) hlt (by omega)
  · simp only [d_nlt hlt, cond_false]
    exact h

/-! laws.szKeyS -/
noncomputable def c_laws_szKeyS : Ctx := mkC Tryz.prog tyT [] [] [] 12 (fun _ => none) 0
theorem w_laws_szKeyS (xs : List (KeyD)) (n : Int) (K : V → Heap → Prop) : wpFn c_laws_szKeyS Tryz.f20 (encAs [.cell (.slice (tK)), .cell (.int .i64)] (xs, n, ())) [] K =
  cond (decide (IntKind.wrap IntKind.i64 (n - (↑(List.length xs) : Int)) < 0))
    (K (.int .i64 (-1)) [])
    (K (.int .i64 (IntKind.wrap IntKind.i64 (n - (↑(List.length xs) : Int)))) []) := by kernel_rfl
noncomputable def s_laws_szKeyS : Sm := semG [.cell (.slice (tK)), .cell (.int .i64)] (fun x => match x with | (xs, n, _) => decide (n ≤ 1048576) && decide (0 ≤ n)) fun x => match x with | (xs, n, _) => .int .i64 (szV n xs.length)
theorem ok_laws_szKeyS : FnOk Tryz.prog 20 s_laws_szKeyS := fnOk_typedG (fnOk_runC (C := c_laws_szKeyS) rfl mixed .nil .nil .nil Tryz.func20 (by kernel_rfl)) fun (x : ((List (KeyD)) × (Int) × Unit)) wf hg K h => by
  obtain ⟨xs, n, ⟨⟩⟩ := x
  replace hg : (decide (n ≤ 1048576) && decide (0 ≤ n)) = true := hg
  replace h : K (.int .i64 (szV n xs.length)) [] := h
  rw [w_laws_szKeyS xs n K]
  obtain ⟨⟨wl, _⟩, wn, _⟩ := wf
  have wl' : xs.length ≤ 9223372036854775807 := wl
  simp only [Bool.and_eq_true, decide_eq_true_eq] at hg
  rw [i64_of (by omega) (by omega)]
  unfold szV at h
  cases e : decide (n - (xs.length : Int) < 0) <;> simp only [e, cond_true, cond_false] at h ⊢ <;> exact h

--B wThing ThingD → Nat
def wThing (t : ThingD) : Nat := t.1.length + wShape t.2.1 + t.2.2.length
--B wScene List ThingD → Nat
def wScene (ts : List ThingD) : Nat := wList wThing ts

/-! laws.szThing -/
noncomputable def c_laws_szThing : Ctx := mkC Tryz.prog tyT [(19, s_laws_szShape), (20, s_laws_szKeyS)] [] [] 25 (fun _ => none) 0
theorem w_laws_szThing (s : Str) (ns : ShapeD) (ks : List KeyD) (n : Int) (K : V → Heap → Prop) : wpFn c_laws_szThing Tryz.f6 (encAs [.agg tT, .cell tI] ((s, ns, ks), n, ())) [] K =
  cond (decide (IntKind.wrap IntKind.i64 (n - (↑(List.length s) : Int)) < 0))
    (K (.int .i64 (-1)) [])
    (cond (decide (IntKind.wrap IntKind.i64 (n - (↑(List.length s) : Int)) ≤ 1048576) && decide (0 ≤ IntKind.wrap IntKind.i64 (n - (↑(List.length s) : Int))))
      (cond (decide (szV (IntKind.wrap IntKind.i64 (n - (↑(List.length s) : Int))) (wShape ns) < 0))
        (K (.int .i64 (-1)) [])
        (cond (decide (szV (IntKind.wrap IntKind.i64 (n - (↑(List.length s) : Int))) (wShape ns) ≤ 1048576) && decide (0 ≤ szV (IntKind.wrap IntKind.i64 (n - (↑(List.length s) : Int))) (wShape ns)))
          (cond (decide (szV (szV (IntKind.wrap IntKind.i64 (n - (↑(List.length s) : Int))) (wShape ns)) (List.length ks) < 0))
            (K (.int .i64 (-1)) [])
            (K (.int .i64 (szV (szV (IntKind.wrap IntKind.i64 (n - (↑(List.length s) : Int))) (wShape ns)) (List.length ks))) []))
          (False)))
      (False)) := by kernel_rfl
noncomputable def s_laws_szThing : Sm := semG [.agg tT, .cell tI] (fun x => match x with | ((s, ns, ks), n, _) => decide (n ≤ 1048576) && decide (0 ≤ n)) fun x => match x with | ((s, ns, ks), n, _) => .int .i64 (szV n (wThing (s, ns, ks)))
theorem ok_laws_szThing : FnOk Tryz.prog 6 s_laws_szThing := fnOk_typedG (fnOk_runC (C := c_laws_szThing) rfl mixed (.cons ok_laws_szShape (.cons ok_laws_szKeyS .nil)) .nil .nil Tryz.func6 (by kernel_rfl)) fun (x : (((Str) × (ShapeD) × (List KeyD)) × (Int) × Unit)) wf hg K h => by
  obtain ⟨⟨s, ns, ks⟩, n, ⟨⟩⟩ := x
  replace hg : (decide (n ≤ 1048576) && decide (0 ≤ n)) = true := hg
  replace h : K (.int .i64 (szV n (wThing (s, ns, ks)))) [] := h
  rw [w_laws_szThing s ns ks n K]
  have wl := wf.1.1
  simp only [Bool.and_eq_true, decide_eq_true_eq] at hg
  have e : wThing (s, ns, ks) = s.length + wShape ns + ks.length := rfl
  have wl : s.length ≤ 9223372036854775807 := wl
  rw [i64_of (by omega) (by omega)]
  by_cases h1 : n - (s.length : Int) < 0
  · rw [szV_no (w := wThing (s, ns, ks)) (by omega)] at h
    simp only [d_t h1, cond_true]
    exact h
  · simp only [d_f h1, d_t (show n - (s.length : Int) ≤ 1048576 by omega), d_t (show 0 ≤ n - (s.length : Int) by omega), Bool.and_self, cond_true, cond_false]
    by_cases h2 : n - (s.length : Int) - (wShape ns : Int) < 0
    · rw [szV_no (w := wThing (s, ns, ks)) (by omega)] at h
      simp only [szV_no h2]
      exact h
    · simp only [szV_ok (n := n - (s.length : Int)) (w := wShape ns) (by omega), d_f h2, d_t (show n - (s.length : Int) - (wShape ns : Int) ≤ 1048576 by omega), d_t (show 0 ≤ n - (s.length : Int) - (wShape ns : Int) by omega), Bool.and_self, cond_true, cond_false]
      by_cases h3 : n - (s.length : Int) - (wShape ns : Int) - (ks.length : Int) < 0
      · rw [szV_no (w := wThing (s, ns, ks)) (by omega)] at h
        simp only [szV_no h3]
        exact h
      · rw [szV_ok (w := wThing (s, ns, ks)) (by omega)] at h
        simp only [szV_ok (n := n - (s.length : Int) - (wShape ns : Int)) (w := ks.length) (by omega), d_f h3, cond_false]
        rw [show n - ((wThing (s, ns, ks) : Nat) : Int) = n - (s.length : Int) - (wShape ns : Int) - (ks.length : Int) by omega] at h
        exact h

/-! laws.szThingS -/
noncomputable def a_laws_szThingS : Nat → Option Ann := fun n => bif Nat.beq n 5 then some ⟨[0,1,5],0,false⟩ else none
noncomputable def c_laws_szThingS : Ctx := mkC Tryz.prog tyT [(6, s_laws_szThing)] [] [] 27 a_laws_szThingS 0
noncomputable def fr_laws_szThingS_5 (xs : List (ThingD)) (n i : Int) : Fr := [(0, .vec (tT) xs), (1, .int .i64 n), (5, .int .i64 i)]
theorem r_laws_szThingS_5 (xs : List (ThingD)) (n i : Int) (Kn : Fr → Heap → Prop) (K : V → Heap → Prop) : round c_laws_szThingS ⟨[0,1,5],0,false⟩ (lb c_laws_szThingS 5 Tryz.f18) (fr_laws_szThingS_5 xs n i) [] Kn (lk c_laws_szThingS 5 Tryz.f18 [] K) =
  cond (decide (i < (↑(List.length xs) : Int)))
    (cond (decide (0 ≤ i))
      ((match xs[Int.toNat i]? with
        | some y0 => cond (decide (n ≤ 1048576) && decide (0 ≤ n))
          (cond (decide (szV n (wThing y0) < 0))
            (K (.int .i64 (-1)) [])
            (Kn [(0, (.vec (.pair .str (.pair (.slice (.pair (.int .i64) (.pair (.int .i64) (.pair (.int .i64) (.slice (.float .f32)))))) (.slice (.pair (.int .i64) (.pair (.float .f32) (.pair (.float .f32) (.float .f32))))))) (xs))), (1, (.int .i64 (szV n (wThing y0)))), (5, (.int .i64 (IntKind.wrap IntKind.i64 (i + 1))))] []))
          (False)
        | none => False))
      (False))
    (K (.int .i64 (n)) []) := by kernel_rfl
theorem w_laws_szThingS (xs : List (ThingD)) (n : Int) (K : V → Heap → Prop) : wpFn c_laws_szThingS Tryz.f18 (encAs [.cell (.slice (tT)), .cell (.int .i64)] (xs, n, ())) [] K =
  cond (decide (IntKind.wrap IntKind.i64 (n - (↑(List.length xs) : Int)) < 0))
    (K (.int .i64 (-1)) [])
    (LoopE c_laws_szThingS ⟨[0, 1, 5], 0, false⟩ (lb c_laws_szThingS 5 Tryz.f18) [(0, (.vec (.pair .str (.pair (.slice (.pair (.int .i64) (.pair (.int .i64) (.pair (.int .i64) (.slice (.float .f32)))))) (.slice (.pair (.int .i64) (.pair (.float .f32) (.pair (.float .f32) (.float .f32))))))) (xs))), (1, (.int .i64 (IntKind.wrap IntKind.i64 (n - (↑(List.length xs) : Int))))), (5, (.int .i64 0))] [] (lk c_laws_szThingS 5 Tryz.f18 [] K)) := by kernel_rfl
noncomputable def s_laws_szThingS : Sm := semG [.cell (.slice (tT)), .cell (.int .i64)] (fun x => match x with | (xs, n, _) => decide (n ≤ 1048576) && decide (0 ≤ n)) fun x => match x with | (xs, n, _) => .int .i64 (szV n (wList (wThing) xs))
theorem ok_laws_szThingS : FnOk Tryz.prog 18 s_laws_szThingS := fnOk_typedG (fnOk_runC (C := c_laws_szThingS) rfl mixed (.cons ok_laws_szThing .nil) .nil .nil Tryz.func18 (by kernel_rfl)) fun (x : ((List (ThingD)) × (Int) × Unit)) wf hg K h => by
  obtain ⟨xs, n, ⟨⟩⟩ := x
  replace hg : (decide (n ≤ 1048576) && decide (0 ≤ n)) = true := hg
  replace h : K (.int .i64 (szV n (wList (wThing) xs))) [] := h
  rw [w_laws_szThingS xs n K]
  obtain ⟨⟨wl, wx⟩, wn, _⟩ := wf
  have wl' : xs.length ≤ 9223372036854775807 := wl
  simp only [Bool.and_eq_true, decide_eq_true_eq] at hg
  rw [i64_of (by omega) (by omega)]
  by_cases hn : n - (xs.length : Int) < 0
  · simp only [d_t hn, cond_true]
    rw [szV_no (w := wList (wThing) xs) (by have := wList_ge (wThing) xs; omega)] at h
    exact h
  · simp only [d_f hn, cond_false]
    have e0 : n - (xs.length : Int) = n - (xs.length : Int) - ((((xs.take 0).map (wThing)).sum : Nat) : Int) := by simp
    rw [e0]
    refine loop_run (σ := Nat) (fun i => fr_laws_szThingS_5 xs (n - (xs.length : Int) - ((xs.take i).map (wThing)).sum) i) (fun _ => []) (fun i => i ≤ xs.length ∧ (((xs.take i).map (wThing)).sum : Int) ≤ n - (xs.length : Int)) (fun i => xs.length - i) ?_ 0 ⟨Nat.zero_le _, by simp; omega⟩
    intro i hi Kn hk
    rw [r_laws_szThingS_5 xs (n - (xs.length : Int) - ((xs.take i).map (wThing)).sum) i Kn K]
    by_cases hlt : i < xs.length
    · simp only [d_lt hlt, d_0, cond_true, Int.toNat_natCast, get_lt hlt]
      have hs := sum_take (wThing) hlt
      have hle := sum_le (wThing) xs (i + 1)
      generalize hW : ((xs.take i).map (wThing)).sum = W at *
      have hg1 : n - (xs.length : Int) - (W : Int) ≤ 1048576 := by omega
      have hg2 : 0 ≤ n - (xs.length : Int) - (W : Int) := by omega
      simp only [d_t hg1, d_t hg2, Bool.and_self, cond_true]
      by_cases h1 : n - (xs.length : Int) - (W : Int) - (((wThing) (xs[i]'hlt) : Nat) : Int) < 0
      · simp only [szV_no h1, show decide ((-1 : Int) < 0) = true from rfl, cond_true]
        rw [szV_no (w := wList (wThing) xs) (by simp only [wList]; omega)] at h
        exact h
      · simp only [szV_ok (w := (wThing) (xs[i]'hlt)) (n := n - (xs.length : Int) - (W : Int)) (by omega), d_f h1, cond_false]
        rw [i64_of (by omega) (by omega)]
        have := hk (i + 1) ⟨hlt, by omega⟩ (by omega)
        rw [hs, show n - (xs.length : Int) - ((W + (wThing) (xs[i]'hlt) : Nat) : Int) = n - (xs.length : Int) - (W : Int) - (((wThing) (xs[i]'hlt) : Nat) : Int) by omega] at this
        exact this
    · have : i = xs.length := by omega
      subst this
      simp only [d_nlt hlt, cond_false, List.take_length]
      have h2 := hi.2
      rw [List.take_length] at h2
      rw [szV_ok (w := wList (wThing) xs) (by simp only [wList]; omega), show n - ((wList (wThing) xs : Nat) : Int) = n - (xs.length : Int) - ((xs.map (wThing)).sum : Int) by simp only [wList]; omega] at h
      exact h


/-! laws.szScene -/
noncomputable def c_laws_szScene : Ctx := mkC Tryz.prog tyT [(18, s_laws_szThingS)] [] [] 12 (fun _ => none) 0
theorem w_laws_szScene (s : List ThingD) (n : Int) (K : V → Heap → Prop) : wpFn c_laws_szScene Tryz.f5 (encAs [.agg (.slice tT), .cell tI] (s, n, ())) [] K =
  cond (decide (n ≤ 1048576) && decide (0 ≤ n))
    (cond (decide (szV n (wList wThing s) < 0))
      (K (.int .i64 (-1)) [])
      (K (.int .i64 (szV n (wList wThing s))) []))
    (False) := by kernel_rfl
noncomputable def s_laws_szScene : Sm := semG [.agg (.slice tT), .cell tI] (fun x => match x with | (s, n, _) => decide (n ≤ 1048576) && decide (0 ≤ n)) fun x => match x with | (s, n, _) => .int .i64 (szV n (wScene s))
theorem ok_laws_szScene : FnOk Tryz.prog 5 s_laws_szScene := fnOk_typedG (fnOk_runC (C := c_laws_szScene) rfl mixed (.cons ok_laws_szThingS .nil) .nil .nil Tryz.func5 (by kernel_rfl)) fun (x : ((List ThingD) × (Int) × Unit)) wf hg K h => by
  obtain ⟨s, n, ⟨⟩⟩ := x
  replace hg : (decide (n ≤ 1048576) && decide (0 ≤ n)) = true := hg
  replace h : K (.int .i64 (szV n (wScene s))) [] := h
  rw [w_laws_szScene s n K]
  rw [hg]
  simp only [cond_true]
  by_cases h1 : n - (wScene s : Int) < 0
  · rw [szV_no h1] at h
    simp only [show wList wThing s = wScene s from rfl, szV_no h1]
    exact h
  · rw [szV_ok (by omega)] at h
    simp only [show wList wThing s = wScene s from rfl, szV_ok (n := n) (w := wScene s) (by omega), d_f h1, cond_false]
    exact h

def fitT (t : ThingD) : Bool := fitS t.2.1 && decide (t.2.2.length ≤ 1048576)
def fitC (ts : List ThingD) : Bool := decide (ts.length ≤ 1048576) && ts.all fitT

/-! laws.toThing -/
noncomputable def c_laws_toThing : Ctx := mkC Tryz.prog tyT [(26, s_laws_toShape), (27, s_laws_toKeyS)] [] [] 16 (fun _ => none) 0
theorem w_laws_toThing (s : Str) (ns : ShapeD) (ks : List KeyD) (K : V → Heap → Prop) : wpFn c_laws_toThing Tryz.f9 (encAs [.agg tT] ((s, ns, ks), ())) [] K =
  cond (fitS ns)
    (cond (decide (List.length ks ≤ 1048576))
      (K (.agg [(.str (s)), (.vec (.pair (.int .i64) (.pair (.int .i64) (.pair (.int .i64) (.slice (.float .f32))))) (ns)), (.vec (.pair (.int .i64) (.pair (.float .f32) (.pair (.float .f32) (.float .f32)))) (ks))]) [])
      (False))
    (False) := by kernel_rfl
noncomputable def s_laws_toThing : Sm := semG [.agg tT] (fun x => match x with | ((s, ns, ks), _) => fitT (s, ns, ks)) fun x => match x with | ((s, ns, ks), _) => .agg (enc tT (s, ns, ks))
theorem ok_laws_toThing : FnOk Tryz.prog 9 s_laws_toThing := fnOk_typedG (fnOk_runC (C := c_laws_toThing) rfl mixed (.cons ok_laws_toShape (.cons ok_laws_toKeyS .nil)) .nil .nil Tryz.func9 (by kernel_rfl)) fun (x : (((Str) × (ShapeD) × (List KeyD)) × Unit)) wf hg K h => by
  obtain ⟨⟨s, ns, ks⟩, ⟨⟩⟩ := x
  replace hg : (fitT (s, ns, ks)) = true := hg
  replace h : K (.agg (enc tT (s, ns, ks))) [] := h
  rw [w_laws_toThing s ns ks K]
  revert hg
  unfold fitT
  simp only
  cases fitS ns with
  | false => exact fun e => by cases e
  | true =>
    intro hg
    rw [show decide (ks.length ≤ 1048576) = true from hg]
    exact h

/-! laws.toThingS -/
noncomputable def a_laws_toThingS : Nat → Option Ann := fun n => bif Nat.beq n 3 then some ⟨[0,3,4],1,false⟩ else none
noncomputable def c_laws_toThingS : Ctx := mkC Tryz.prog tyT [(9, s_laws_toThing)] [] [] 23 a_laws_toThingS 0
noncomputable def fr_laws_toThingS_3 (xs ys : List (ThingD)) (i : Int) : Fr := [(0, .vec (tT) xs), (3, .obj 0 0), (4, .int .i64 i)]
noncomputable def hp_laws_toThingS_3 (xs ys : List (ThingD)) (i : Int) : Heap := [.sl 0 (tT) ys]
theorem r_laws_toThingS_3 (xs ys : List (ThingD)) (i : Int) (Kn : Fr → Heap → Prop) (K : V → Heap → Prop) : round c_laws_toThingS ⟨[0,3,4],1,false⟩ (lb c_laws_toThingS 3 Tryz.f25) (fr_laws_toThingS_3 xs ys i) (hp_laws_toThingS_3 xs ys i) Kn (lk c_laws_toThingS 3 Tryz.f25 [] K) =
  cond (decide (i < (↑(List.length xs) : Int)))
    (cond (decide (0 ≤ i))
      ((match xs[Int.toNat i]? with
        | some y0 => cond (fitT y0)
          (cond (decide (0 ≤ i) && Nat.blt (Int.toNat i) (List.length ys))
            ((match ys[Int.toNat i]? with
              | some x1 => Kn [(0, (.vec (.pair .str (.pair (.slice (.pair (.int .i64) (.pair (.int .i64) (.pair (.int .i64) (.slice (.float .f32)))))) (.slice (.pair (.int .i64) (.pair (.float .f32) (.pair (.float .f32) (.float .f32))))))) (xs))), (3, (.obj 0 0)), (4, (.int .i64 (IntKind.wrap IntKind.i64 (i + 1))))] [(.sl 0 (.pair .str (.pair (.slice (.pair (.int .i64) (.pair (.int .i64) (.pair (.int .i64) (.slice (.float .f32)))))) (.slice (.pair (.int .i64) (.pair (.float .f32) (.pair (.float .f32) (.float .f32))))))) (List.set ys (Int.toNat i) y0))]
              | none => False))
            (False))
          (False)
        | none => False))
      (False))
    (K (.vec (.pair .str (.pair (.slice (.pair (.int .i64) (.pair (.int .i64) (.pair (.int .i64) (.slice (.float .f32)))))) (.slice (.pair (.int .i64) (.pair (.float .f32) (.pair (.float .f32) (.float .f32))))))) (ys)) []) := by kernel_rfl
theorem w_laws_toThingS (xs : List (ThingD)) (K : V → Heap → Prop) : wpFn c_laws_toThingS Tryz.f25 (encAs [.cell (.slice (tT))] (xs, ())) [] K =
  cond (decide (0 ≤ (↑(List.length xs) : Int)) && (decide ((↑(List.length xs) : Int) ≤ (↑(List.length xs) : Int)) && decide ((↑64 : Int) * (↑(List.length xs) : Int) ≤ 281474976710656)))
    (LoopE c_laws_toThingS ⟨[0, 3, 4], 1, false⟩ (lb c_laws_toThingS 3 Tryz.f25) [(0, (.vec (.pair .str (.pair (.slice (.pair (.int .i64) (.pair (.int .i64) (.pair (.int .i64) (.slice (.float .f32)))))) (.slice (.pair (.int .i64) (.pair (.float .f32) (.pair (.float .f32) (.float .f32))))))) (xs))), (3, (.obj 0 0)), (4, (.int .i64 0))] [(.sl 0 (.pair .str (.pair (.slice (.pair (.int .i64) (.pair (.int .i64) (.pair (.int .i64) (.slice (.float .f32)))))) (.slice (.pair (.int .i64) (.pair (.float .f32) (.pair (.float .f32) (.float .f32))))))) (List.replicate (Int.toNat (↑(List.length xs) : Int)) (Array.toList (ByteArray.data { data := #[] }), [], [])))] (lk c_laws_toThingS 3 Tryz.f25 [] K))
    (False) := by kernel_rfl
noncomputable def s_laws_toThingS : Sm := semG [.cell (.slice (tT))] (fun x => match x with | (xs, _) => decide (xs.length ≤ 1048576) && xs.all fitT) fun x => match x with | (xs, _) => .vec (tT) xs
theorem ok_laws_toThingS : FnOk Tryz.prog 25 s_laws_toThingS := fnOk_typedG (fnOk_runC (C := c_laws_toThingS) rfl mixed (.cons ok_laws_toThing .nil) .nil .nil Tryz.func25 (by kernel_rfl)) fun (x : ((List (ThingD)) × Unit)) wf hg K h => by
  obtain ⟨xs, ⟨⟩⟩ := x
  replace hg : (decide (xs.length ≤ 1048576) && xs.all fitT) = true := hg
  replace h : K (.vec (tT) xs) [] := h
  rw [w_laws_toThingS xs K]
  simp only [Bool.and_eq_true, decide_eq_true_eq] at hg
  obtain ⟨hg, hg2⟩ := hg
  rw [d_0, d_t (Int.le_refl _), d_t (by omega)]
  simp only [Bool.and_self, cond_true, Int.toNat_natCast]
  refine loop_run (σ := Nat) (fun i => fr_laws_toThingS_3 xs [] i) (fun i => hp_laws_toThingS_3 xs (xs.take i ++ List.replicate (xs.length - i) ([], [], [])) i) (fun i => i ≤ xs.length) (fun i => xs.length - i) ?_ 0 (Nat.zero_le _)
  intro i hi Kn hk
  rw [show fr_laws_toThingS_3 xs [] i = fr_laws_toThingS_3 xs (xs.take i ++ List.replicate (xs.length - i) ([], [], [])) i from rfl, r_laws_toThingS_3 xs (xs.take i ++ List.replicate (xs.length - i) ([], [], [])) i Kn K]
  by_cases hlt : i < xs.length
  · have hl : (xs.take i ++ List.replicate (xs.length - i) ([], [], [])).length = xs.length := by rw [List.length_append, List.length_take, List.length_replicate]; omega
    have hl' : i < (xs.take i ++ List.replicate (xs.length - i) ([], [], [])).length := by omega
    have hx : fitT (xs[i]'hlt) = true := List.all_eq_true.1 hg2 _ (List.getElem_mem hlt)
    simp only [d_lt hlt, d_0, cond_true, Int.toNat_natCast, get_lt hlt, blt_t hl', get_lt hl', Bool.and_self, hx]
    rw [i64_of (by omega) (by omega), copy_step hlt rfl rfl]
    exact hk (i + 1) hlt (by omega)
  · have : i = xs.length := by omega
    subst this
    simp only [d_nlt hlt, cond_false, List.take_length, Nat.sub_self, List.replicate_zero, List.append_nil]
    exact h

/-! laws.toScene -/
noncomputable def c_laws_toScene : Ctx := mkC Tryz.prog tyT [(25, s_laws_toThingS)] [] [] 9 (fun _ => none) 0
theorem w_laws_toScene (s : List ThingD) (K : V → Heap → Prop) : wpFn c_laws_toScene Tryz.f8 (encAs [.agg (.slice tT)] (s, ())) [] K =
  cond (decide (List.length s ≤ 1048576) && List.all s fitT)
    (K (.agg [(.vec (.pair .str (.pair (.slice (.pair (.int .i64) (.pair (.int .i64) (.pair (.int .i64) (.slice (.float .f32)))))) (.slice (.pair (.int .i64) (.pair (.float .f32) (.pair (.float .f32) (.float .f32))))))) (s))]) [])
    (False) := by kernel_rfl
noncomputable def s_laws_toScene : Sm := semG [.agg (.slice tT)] (fun x => match x with | (s, _) => fitC s) fun x => match x with | (s, _) => .agg [.vec tT s]
theorem ok_laws_toScene : FnOk Tryz.prog 8 s_laws_toScene := fnOk_typedG (fnOk_runC (C := c_laws_toScene) rfl mixed (.cons ok_laws_toThingS .nil) .nil .nil Tryz.func8 (by kernel_rfl)) fun (x : ((List ThingD) × Unit)) wf hg K h => by
  obtain ⟨s, ⟨⟩⟩ := x
  replace hg : (fitC s) = true := hg
  replace h : K (.agg [.vec tT s]) [] := h
  rw [w_laws_toScene s K]
  rw [show (decide (s.length ≤ 1048576) && s.all fitT) = true from hg]
  exact h

/-! laws.eqThing -/
noncomputable def c_laws_eqThing : Ctx := mkC Tryz.prog tyT [(34, s_laws_eqShape), (35, s_laws_eqKeyS)] [] [] 22 (fun _ => none) 0
theorem w_laws_eqThing (u v : ThingD) (K : V → Heap → Prop) : wpFn c_laws_eqThing Tryz.f12 (encAs [.agg tT, .agg tT] (u, v, ())) [] K =
  cond (!bytesEq (Prod.fst u) (Prod.fst v))
    (K (.bool false) [])
    (cond (Prod.fst (Prod.snd u) == Prod.fst (Prod.snd v))
      (cond (Prod.snd (Prod.snd u) == Prod.snd (Prod.snd v))
        (K (.bool true) [])
        (False))
      (False)) := by kernel_rfl
noncomputable def s_laws_eqThing : Sm := semG [.agg tT, .agg tT] (fun x => match x with | (u, v, _) => u == v) fun x => match x with | (u, v, _) => .bool true
theorem ok_laws_eqThing : FnOk Tryz.prog 12 s_laws_eqThing := fnOk_typedG (fnOk_runC (C := c_laws_eqThing) rfl mixed (.cons ok_laws_eqShape (.cons ok_laws_eqKeyS .nil)) .nil .nil Tryz.func12 (by kernel_rfl)) fun (x : ((ThingD) × (ThingD) × Unit)) wf hg K h => by
  obtain ⟨u, v, ⟨⟩⟩ := x
  replace hg : (u == v) = true := hg
  replace h : K (.bool true) [] := h
  rw [w_laws_eqThing u v K]
  have e : u = v := by simpa using hg
  subst e
  simp only [beq_self_eq_true, bne_self_eq_false, cond_true, cond_false, Bool.not_true, bytesEq]
  exact h

/-! laws.eqThingS -/
noncomputable def a_laws_eqThingS : Nat → Option Ann := fun n => bif Nat.beq n 4 then some ⟨[0,1,5],0,false⟩ else none
noncomputable def c_laws_eqThingS : Ctx := mkC Tryz.prog tyT [(12, s_laws_eqThing)] [] [] 27 a_laws_eqThingS 0
noncomputable def fr_laws_eqThingS_4 (xs ys : List (ThingD)) (i : Int) : Fr := [(0, .vec (tT) xs), (1, .vec (tT) ys), (5, .int .i64 i)]
theorem r_laws_eqThingS_4 (xs ys : List (ThingD)) (i : Int) (Kn : Fr → Heap → Prop) (K : V → Heap → Prop) : round c_laws_eqThingS ⟨[0,1,5],0,false⟩ (lb c_laws_eqThingS 4 Tryz.f33) (fr_laws_eqThingS_4 xs ys i) [] Kn (lk c_laws_eqThingS 4 Tryz.f33 [] K) =
  cond (decide (i < (↑(List.length xs) : Int)))
    (cond (decide (0 ≤ i))
      ((match xs[Int.toNat i]? with
        | some y0 => cond (decide (0 ≤ i))
          ((match ys[Int.toNat i]? with
            | some y1 => cond (y0 == y1)
              (Kn [(0, (.vec (.pair .str (.pair (.slice (.pair (.int .i64) (.pair (.int .i64) (.pair (.int .i64) (.slice (.float .f32)))))) (.slice (.pair (.int .i64) (.pair (.float .f32) (.pair (.float .f32) (.float .f32))))))) (xs))), (1, (.vec (.pair .str (.pair (.slice (.pair (.int .i64) (.pair (.int .i64) (.pair (.int .i64) (.slice (.float .f32)))))) (.slice (.pair (.int .i64) (.pair (.float .f32) (.pair (.float .f32) (.float .f32))))))) (ys))), (5, (.int .i64 (IntKind.wrap IntKind.i64 (i + 1))))] [])
              (False)
            | none => False))
          (False)
        | none => False))
      (False))
    (K (.bool true) []) := by kernel_rfl
theorem w_laws_eqThingS (xs ys : List (ThingD)) (K : V → Heap → Prop) : wpFn c_laws_eqThingS Tryz.f33 (encAs [.cell (.slice (tT)), .cell (.slice (tT))] (xs, ys, ())) [] K =
  cond ((↑(List.length xs) : Int) != (↑(List.length ys) : Int))
    (K (.bool false) [])
    (LoopE c_laws_eqThingS ⟨[0, 1, 5], 0, false⟩ (lb c_laws_eqThingS 4 Tryz.f33) [(0, (.vec (.pair .str (.pair (.slice (.pair (.int .i64) (.pair (.int .i64) (.pair (.int .i64) (.slice (.float .f32)))))) (.slice (.pair (.int .i64) (.pair (.float .f32) (.pair (.float .f32) (.float .f32))))))) (xs))), (1, (.vec (.pair .str (.pair (.slice (.pair (.int .i64) (.pair (.int .i64) (.pair (.int .i64) (.slice (.float .f32)))))) (.slice (.pair (.int .i64) (.pair (.float .f32) (.pair (.float .f32) (.float .f32))))))) (ys))), (5, (.int .i64 0))] [] (lk c_laws_eqThingS 4 Tryz.f33 [] K)) := by kernel_rfl
noncomputable def s_laws_eqThingS : Sm := semG [.cell (.slice (tT)), .cell (.slice (tT))] (fun x => match x with | (xs, ys, _) => xs == ys) fun x => match x with | (xs, ys, _) => .bool true
theorem ok_laws_eqThingS : FnOk Tryz.prog 33 s_laws_eqThingS := fnOk_typedG (fnOk_runC (C := c_laws_eqThingS) rfl mixed (.cons ok_laws_eqThing .nil) .nil .nil Tryz.func33 (by kernel_rfl)) fun (x : ((List (ThingD)) × (List (ThingD)) × Unit)) wf hg K h => by
  obtain ⟨xs, ys, ⟨⟩⟩ := x
  replace hg : (xs == ys) = true := hg
  replace h : K (.bool true) [] := h
  rw [w_laws_eqThingS xs ys K]
  have e : xs = ys := by simpa using hg
  subst e
  obtain ⟨⟨wl, _⟩, _⟩ := wf
  rw [bne_self_eq_false, cond_false]
  refine loop_run (σ := Nat) (fun i => fr_laws_eqThingS_4 xs xs i) (fun _ => []) (fun i => i ≤ xs.length) (fun i => xs.length - i) ?_ 0 (Nat.zero_le _)
  intro i hi Kn hk
  rw [r_laws_eqThingS_4 xs xs i Kn K]
  by_cases hlt : i < xs.length
  · simp only [d_lt hlt, d_0, cond_true, Int.toNat_natCast, get_lt hlt, beq_self_eq_true]
    have hm : xs.length ≤ 9223372036854775807 := wl
    rw [i64_of (by omega) (by omega)]
    exact hk (i + 1) hlt (by omega)
  · simp only [d_nlt hlt, cond_false]
    exact h

/-! laws.eqScene -/
noncomputable def c_laws_eqScene : Ctx := mkC Tryz.prog tyT [(33, s_laws_eqThingS)] [] [] 11 (fun _ => none) 0
theorem w_laws_eqScene (m n : List ThingD) (K : V → Heap → Prop) : wpFn c_laws_eqScene Tryz.f11 (encAs [.agg (.slice tT), .agg (.slice tT)] (m, n, ())) [] K =
  cond (m == n)
    (K (.bool true) [])
    (False) := by kernel_rfl
noncomputable def s_laws_eqScene : Sm := semG [.agg (.slice tT), .agg (.slice tT)] (fun x => match x with | (m, n, _) => m == n) fun x => match x with | (m, n, _) => .bool true
theorem ok_laws_eqScene : FnOk Tryz.prog 11 s_laws_eqScene := fnOk_typedG (fnOk_runC (C := c_laws_eqScene) rfl mixed (.cons ok_laws_eqThingS .nil) .nil .nil Tryz.func11 (by kernel_rfl)) fun (x : ((List ThingD) × (List ThingD) × Unit)) wf hg K h => by
  obtain ⟨m, n, ⟨⟩⟩ := x
  replace hg : (m == n) = true := hg
  replace h : K (.bool true) [] := h
  rw [w_laws_eqScene m n K]
  rw [hg]; exact h

theorem fitC_of {ts : List ThingD} (h : wScene ts ≤ 1048576) : fitC ts = true := by
  unfold fitC
  have h1 := wList_ge wThing ts
  simp only [Bool.and_eq_true, decide_eq_true_eq]
  refine ⟨by unfold wScene at h; omega, List.all_eq_true.2 fun t ht => ?_⟩
  have := mem_le wThing ht
  unfold wScene wList at h
  have e : wThing t = t.1.length + wShape t.2.1 + t.2.2.length := rfl
  unfold fitT
  simp only [Bool.and_eq_true, decide_eq_true_eq]
  exact ⟨fitS_of (by omega), by omega⟩


end Go.Proofs.YtkppbbaibjhkaaaGreat
