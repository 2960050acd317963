/- Things without needless keys. -/
import Derived.Test.YtbalmdjicdeeiaaPath
set_option linter.unusedVariables false
set_option linter.unusedSimpArgs false
set_option maxRecDepth 100000
namespace Go.Proofs.Ytbalmdjicdeeiaa
open Go.Ev

def lastK (out : List KeyD) : KeyD := (out[out.length - 1]?).getD (0, 0, 0, 0)
def skipK (out : List KeyD) (k : KeyD) : List KeyD → Bool
  | [] => false
  | k2 :: _ => betw (lastK out) k2 k.1 == k.2
def thinGo : List KeyD → List KeyD → List KeyD
  | out, [] => out
  | out, k :: r => bif skipK out k r then thinGo out r else thinGo (out ++ [k]) r
def thinL : List KeyD → List KeyD
  | [] => []
  | k :: r => thinGo [k] r
def thinR (t : ThingD) : ThingD := bif thingB t then (t.1, t.2.1, thinL t.2.2) else ([], [], [])
theorem thinGo_at (out : List KeyD) {ks : List KeyD} {i : Nat} (hi : i < ks.length) : thinGo out (ks.drop i) = bif skipK out (ks[i]'hi) (ks.drop (i + 1)) then thinGo out (ks.drop (i + 1)) else thinGo (out ++ [ks[i]'hi]) (ks.drop (i + 1)) := by
  rw [List.drop_eq_getElem_cons hi]
  rfl
theorem skipK_in (out : List KeyD) (k : KeyD) {ks : List KeyD} {i : Nat} (hi : i + 1 < ks.length) : skipK out k (ks.drop (i + 1)) = (betw (lastK out) (ks[i + 1]'hi) k.1 == k.2) := by
  rw [List.drop_eq_getElem_cons hi]
  rfl
theorem skipK_end (out : List KeyD) (k : KeyD) {ks : List KeyD} {i : Nat} (hi : ¬ i + 1 < ks.length) : skipK out k (ks.drop (i + 1)) = false := by
  rw [List.drop_of_length_le (by omega)]
  rfl
theorem thinL_at {ks : List KeyD} (h1 : 1 ≤ ks.length) : thinL ks = thinGo [ks[0]'(by omega)] (ks.drop 1) := by
  cases ks with
  | nil => simp at h1
  | cons k r => rfl
theorem lastK_at {out : List KeyD} (h : 1 ≤ out.length) : lastK out = out[out.length - 1]'(by omega) := by
  unfold lastK
  rw [get_lt (show out.length - 1 < out.length by omega)]
  rfl
theorem thinGo_len : ∀ (r out : List KeyD), (thinGo out r).length ≤ out.length + r.length
  | [], out => by simp [thinGo]
  | k :: r, out => by
    simp only [thinGo]
    cases skipK out k r with
    | true => have := thinGo_len r out; simp only [cond_true, List.length_cons]; omega
    | false => have := thinGo_len r (out ++ [k]); simp only [cond_false, List.length_cons, List.length_append, List.length_nil] at *; omega

/-! spec.ThinKeys -/
noncomputable def a_spec_ThinKeys_vg : Nat → Option Ann := fun n => bif Nat.beq n 6 then some ⟨[1,2,4,5],2,true⟩ else none
noncomputable def c_spec_ThinKeys_vg : Ctx := mkC Try.prog tyT [(56, s_spec_l10Thing), (82, s_spec_l10Between), (83, s_spec_l01VSame)] [] [(71, s_spec_l10Own)] 68 a_spec_ThinKeys_vg 0 false [] true
noncomputable def gp_spec_ThinKeys_vg : List (List (Option Ty)) := List.map giveR [.agg pT, .cell (.imm .bool)]
noncomputable def fr_spec_ThinKeys_vg_6 (s : Str) (ns : ShapeD) (ks out : List KeyD) (i : Int) : Fr := [(1, .ptr 0 0), (2, .ptr 1 0), (4, .ptr 2 0), (5, .int .i64 i)]
noncomputable def hp_spec_ThinKeys_vg_6 (s : Str) (ns : ShapeD) (ks out : List KeyD) (i : Int) : Heap := [.box [.str s, .vec tN ns, .vec tK ks], .box [.str [], .nils, .nils], .box [.str s, .dob 3 0, .obj 4 0], .dp 0 0 tN ns, .sl 0 tK out]
theorem r_spec_ThinKeys_vg_6 (s : Str) (ns : ShapeD) (ks out : List KeyD) (i : Int) (Kn : Fr → Heap → Prop) (K : V → Heap → Prop) : round c_spec_ThinKeys_vg ⟨[1,2,4,5],2,true⟩ (lb c_spec_ThinKeys_vg 6 Try.f37) (fr_spec_ThinKeys_vg_6 s ns ks out i) (hp_spec_ThinKeys_vg_6 s ns ks out i) Kn (lkG gp_spec_ThinKeys_vg c_spec_ThinKeys_vg 6 Try.f37 [] K) =
  cond (decide (i < (↑(List.length ks) : Int)))
    (cond (decide (IntKind.wrap IntKind.i64 (i + 1) < (↑(List.length ks) : Int)))
      (cond (decide (0 ≤ IntKind.wrap IntKind.i64 ((↑(List.length out) : Int) - 1)) && Nat.blt (Int.toNat (IntKind.wrap IntKind.i64 ((↑(List.length out) : Int) - 1))) (List.length out))
        (cond (decide (0 ≤ IntKind.wrap IntKind.i64 (i + 1)))
          ((match ks[Int.toNat (IntKind.wrap IntKind.i64 (i + 1))]? with
            | some y0 => cond (decide (0 ≤ i))
              ((match ks[Int.toNat i]? with
                | some y1 => (match out[Int.toNat (IntKind.wrap IntKind.i64 ((↑(List.length out) : Int) - 1))]? with
                  | some x2 => cond (decide (0 ≤ i))
                    ((match ks[Int.toNat i]? with
                      | some y3 => cond (betw x2 y0 (Prod.fst y1) == Prod.snd y3)
                        (Kn [(1, (.ptr 0 0)), (2, (.ptr 1 0)), (4, (.ptr 2 0)), (5, (.int .i64 (IntKind.wrap IntKind.i64 (i + 1))))] [(.box [(.str (s)), (.vec (.pair (.int .i64) (.pair (.int .i64) (.pair (.int .i64) (.slice (.float .f32))))) (ns)), (.vec (.pair (.int .i64) (.pair (.float .f32) (.pair (.float .f32) (.float .f32)))) (ks))]), (.box [(.str ([])), .nils, .nils]), (.box [(.str (s)), (.dob 3 0), (.obj 4 0)]), (.dp 0 0 (.pair (.int .i64) (.pair (.int .i64) (.pair (.int .i64) (.slice (.float .f32))))) (ns)), (.sl 0 (.pair (.int .i64) (.pair (.float .f32) (.pair (.float .f32) (.float .f32)))) (out))])
                        (cond (decide (0 ≤ i))
                          ((match ks[Int.toNat i]? with
                            | some y4 => cond (decide ((List.length out + 1) * 24 ≤ 140737488355328))
                              (Kn [(1, (.ptr 0 0)), (2, (.ptr 1 0)), (4, (.ptr 2 0)), (5, (.int .i64 (IntKind.wrap IntKind.i64 (i + 1))))] [(.box [(.str (s)), (.vec (.pair (.int .i64) (.pair (.int .i64) (.pair (.int .i64) (.slice (.float .f32))))) (ns)), (.vec (.pair (.int .i64) (.pair (.float .f32) (.pair (.float .f32) (.float .f32)))) (ks))]), (.box [(.str ([])), .nils, .nils]), (.box [(.str (s)), (.dob 3 0), (.obj 4 0)]), (.dp 0 0 (.pair (.int .i64) (.pair (.int .i64) (.pair (.int .i64) (.slice (.float .f32))))) (ns)), (.sl 0 (.pair (.int .i64) (.pair (.float .f32) (.pair (.float .f32) (.float .f32)))) (out ++ [y4]))])
                              (False)
                            | none => False))
                          (False))
                      | none => False))
                    (False)
                  | none => False)
                | none => False))
              (False)
            | none => False))
          (False))
        (False))
      (cond (decide (0 ≤ i))
        ((match ks[Int.toNat i]? with
          | some y5 => cond (decide ((List.length out + 1) * 24 ≤ 140737488355328))
            (Kn [(1, (.ptr 0 0)), (2, (.ptr 1 0)), (4, (.ptr 2 0)), (5, (.int .i64 (IntKind.wrap IntKind.i64 (i + 1))))] [(.box [(.str (s)), (.vec (.pair (.int .i64) (.pair (.int .i64) (.pair (.int .i64) (.slice (.float .f32))))) (ns)), (.vec (.pair (.int .i64) (.pair (.float .f32) (.pair (.float .f32) (.float .f32)))) (ks))]), (.box [(.str ([])), .nils, .nils]), (.box [(.str (s)), (.dob 3 0), (.obj 4 0)]), (.dp 0 0 (.pair (.int .i64) (.pair (.int .i64) (.pair (.int .i64) (.slice (.float .f32))))) (ns)), (.sl 0 (.pair (.int .i64) (.pair (.float .f32) (.pair (.float .f32) (.float .f32)))) (out ++ [y5]))])
            (False)
          | none => False))
        (False)))
    (K (.tuple [(.agg [(.str (s)), (.dob 0 0), (.obj 1 0)]), (.bool true)]) [(.dp 0 0 (.pair (.int .i64) (.pair (.int .i64) (.pair (.int .i64) (.slice (.float .f32))))) (ns)), (.sl 0 (.pair (.int .i64) (.pair (.float .f32) (.pair (.float .f32) (.float .f32)))) (out))]) := by kernel_rfl
theorem w_spec_ThinKeys_vg (s : Str) (ns : ShapeD) (ks : List KeyD) (K : V → Heap → Prop) : wpFnG gp_spec_ThinKeys_vg c_spec_ThinKeys_vg Try.f37 (encAs [.agg tT] ((s, ns, ks), ())) [] K =
  cond (!thingB (s, ns, ks))
    (K (.tuple [(.agg [(.str (Array.toList (ByteArray.data { data := #[] }))), (.dob 0 0), (.obj 1 0)]), (.bool false)]) [(.dp 0 0 (.pair (.int .i64) (.pair (.int .i64) (.pair (.int .i64) (.slice (.float .f32))))) ([])), (.sl 0 (.pair (.int .i64) (.pair (.float .f32) (.pair (.float .f32) (.float .f32)))) ([]))])
    (cond (fitT (s, ns, ks) && !List.isEmpty ks)
      ((match ks[0]? with
        | some y0 => LoopE c_spec_ThinKeys_vg ⟨[1, 2, 4, 5], 2, true⟩ (lb c_spec_ThinKeys_vg 6 Try.f37) [(1, (.ptr 0 0)), (2, (.ptr 1 0)), (4, (.ptr 2 0)), (5, (.int .i64 1))] [(.box [(.str (s)), (.vec (.pair (.int .i64) (.pair (.int .i64) (.pair (.int .i64) (.slice (.float .f32))))) (ns)), (.vec (.pair (.int .i64) (.pair (.float .f32) (.pair (.float .f32) (.float .f32)))) (ks))]), (.box [(.str (Array.toList (ByteArray.data { data := #[] }))), .nils, .nils]), (.box [(.str (s)), (.dob 3 0), (.obj 4 0)]), (.dp 0 0 (.pair (.int .i64) (.pair (.int .i64) (.pair (.int .i64) (.slice (.float .f32))))) (ns)), (.sl 0 (.pair (.int .i64) (.pair (.float .f32) (.pair (.float .f32) (.float .f32)))) ([y0]))] (lkG gp_spec_ThinKeys_vg c_spec_ThinKeys_vg 6 Try.f37 [] K)
        | none => False))
      (False)) := by kernel_rfl
noncomputable def s_spec_ThinKeys_vg : Sm := semV [.agg tT] [.agg pT, .cell (.imm .bool)] (fun x => match x with | ((s, ns, ks), _) => fitT (s, ns, ks)) fun x => match x with | ((s, ns, ks), _) => (((thinR (s, ns, ks)).1, (thinR (s, ns, ks)).2.1, (thinR (s, ns, ks)).2.2, ()), thingB (s, ns, ks), ())
theorem ok_spec_ThinKeys_vg : FnOkL Try.prog 37 s_spec_ThinKeys_vg := fnOkO_give (fnOkO_runG (C := c_spec_ThinKeys_vg) gp_spec_ThinKeys_vg rfl mixed (.cons ok_spec_l10Thing (.cons ok_spec_l10Between (.cons ok_spec_l01VSame .nil))) .nil (.cons ok_spec_l10Own .nil) Try.func37 (by kernel_rfl)) rfl fun (x : (((Str) × (ShapeD) × (List KeyD)) × Unit)) wf hg K h => by
  obtain ⟨⟨s, ns, ks⟩, ⟨⟩⟩ := x
  replace hg : (fitT (s, ns, ks)) = true := hg
  replace h : K (tup (valRs [.agg pT, .cell (.imm .bool)] ((((thinR (s, ns, ks)).1, (thinR (s, ns, ks)).2.1, (thinR (s, ns, ks)).2.2, ()), thingB (s, ns, ks), ())) 0)) (thRs [.agg pT, .cell (.imm .bool)] ((((thinR (s, ns, ks)).1, (thinR (s, ns, ks)).2.1, (thinR (s, ns, ks)).2.2, ()), thingB (s, ns, ks), ()))) := h
  rw [w_spec_ThinKeys_vg s ns ks K]
  unfold thinR at h
  cases h1 : thingB (s, ns, ks) with
  | false =>
    simp only [h1, cond_false, Bool.not_false, cond_true] at h ⊢
    exact h
  | true =>
    simp only [h1, cond_true, Bool.not_true, cond_false] at h ⊢
    have hk8 := thingB_keys' h1
    simp only at hk8
    have g4 : (!ks.isEmpty) = true := by cases ks with | nil => simp at hk8 | cons _ _ => rfl
    rw [thinL_at hk8.1] at h
    rw [hg, g4, Bool.and_self, cond_true]
    simp only [get_lt (show 0 < ks.length by omega)]
    refine loop_run (σ := Nat × List KeyD) (fun q => fr_spec_ThinKeys_vg_6 s ns ks q.2 q.1) (fun q => hp_spec_ThinKeys_vg_6 s ns ks q.2 q.1) (fun q => 1 ≤ q.1 ∧ q.1 ≤ ks.length ∧ 1 ≤ q.2.length ∧ q.2.length ≤ q.1 ∧ thinGo q.2 (ks.drop q.1) = thinGo [ks[0]'(by omega)] (ks.drop 1)) (fun q => ks.length - q.1) ?_ (1, [ks[0]'(by omega)]) ⟨Nat.le_refl _, hk8.1, Nat.le_refl _, Nat.le_refl _, rfl⟩
    rintro ⟨i, out⟩ ⟨hi1, hi, ho1, ho, hz⟩ Kn hk
    simp only at hi1 hi ho1 ho hz hk ⊢
    rw [r_spec_ThinKeys_vg_6 s ns ks out i Kn K]
    by_cases hlt : i < ks.length
    · have hw : IntKind.i64.wrap ((i : Int) + 1) = ((i + 1 : Nat) : Int) := by rw [i64_of (by omega) (by omega)]; omega
      have hw2 : IntKind.i64.wrap ((out.length : Int) - 1) = ((out.length - 1 : Nat) : Int) := by rw [i64_of (by omega) (by omega)]; omega
      rw [thinGo_at out hlt] at hz
      have goS : skipK out (ks[i]'hlt) (ks.drop (i + 1)) = true → Kn (fr_spec_ThinKeys_vg_6 s ns ks out ((i + 1 : Nat) : Int)) (hp_spec_ThinKeys_vg_6 s ns ks out ((i + 1 : Nat) : Int)) := fun e => by
        rw [e, cond_true] at hz
        exact hk (i + 1, out) ⟨by omega, hlt, ho1, by simp only; omega, hz⟩ (by simp only; omega)
      have goN : skipK out (ks[i]'hlt) (ks.drop (i + 1)) = false → Kn (fr_spec_ThinKeys_vg_6 s ns ks (out ++ [ks[i]'hlt]) ((i + 1 : Nat) : Int)) (hp_spec_ThinKeys_vg_6 s ns ks (out ++ [ks[i]'hlt]) ((i + 1 : Nat) : Int)) := fun e => by
        rw [e, cond_false] at hz
        exact hk (i + 1, out ++ [ks[i]'hlt]) ⟨by omega, hlt, by simp only [List.length_append, List.length_cons, List.length_nil]; omega, by simp only [List.length_append, List.length_cons, List.length_nil]; omega, hz⟩ (by simp only; omega)
      simp only [d_lt hlt, d_0, cond_true, Int.toNat_natCast, get_lt hlt, hw, hw2, blt_t (show out.length - 1 < out.length by omega), Bool.and_self, d_t (show (out.length + 1) * 24 ≤ 140737488355328 by omega)]
      by_cases hl2 : i + 1 < ks.length
      · have hsk := skipK_in out (ks[i]'hlt) hl2
        rw [lastK_at ho1] at hsk
        simp only [d_lt hl2, cond_true, get_lt hl2, get_lt (show out.length - 1 < out.length by omega)]
        rw [← hsk] at *
        cases e : skipK out (ks[i]'hlt) (ks.drop (i + 1)) with
        | true => simp only [cond_true]; exact goS e
        | false => simp only [cond_false]; exact goN e
      · simp only [d_nlt hl2, cond_false]
        exact goN (skipK_end out _ hl2)
    · have : i = ks.length := by omega
      subst this
      simp only [d_nlt hlt, cond_false]
      rw [List.drop_of_length_le (Nat.le_refl _)] at hz
      simp only [thinGo] at hz
      rw [← hz] at h
      exact h
noncomputable def s_spec_ThinKeys_vg_vv : Sm := semG [.agg tT] (fun x => match x with | ((s, ns, ks), _) => fitT (s, ns, ks)) fun x => tup (vecRs [.agg pT, .cell (.imm .bool)] (match x with | ((s, ns, ks), _) => (((thinR (s, ns, ks)).1, (thinR (s, ns, ks)).2.1, (thinR (s, ns, ks)).2.2, ()), thingB (s, ns, ks), ())))
theorem ok_spec_ThinKeys_vg_vv : FnOk Try.prog 37 s_spec_ThinKeys_vg_vv := fnOk_of_give ok_spec_ThinKeys_vg.1

/-! impl.ThinKeys -/
noncomputable def a_impl_ThinKeys_vg : Nat → Option Ann := fun n => bif Nat.beq n 6 then some ⟨[1,2,4,5,6],2,true⟩ else none
noncomputable def c_impl_ThinKeys_vg : Ctx := mkC Try.prog tyT [(46, s_impl_Thing_ok), (85, s_impl_between), (84, s_impl_SameVector)] [] [(72, s_impl_cloneThing)] 61 a_impl_ThinKeys_vg 0 false [] true true
noncomputable def gp_impl_ThinKeys_vg : List (List (Option Ty)) := List.map giveR [.agg pT, .cell (.imm .bool)]
noncomputable def fr_impl_ThinKeys_vg_6 (s : Str) (ns : ShapeD) (ks out : List KeyD) (i : Int) : Fr := [(1, .ptr 0 0), (2, .ptr 1 0), (4, .ptr 2 0), (5, .obj 3 0), (6, .int .i64 i)]
noncomputable def hp_impl_ThinKeys_vg_6 (s : Str) (ns : ShapeD) (ks out : List KeyD) (i : Int) : Heap := [.box [.str s, .vec tN ns, .vec tK ks], .box [.str [], .nils, .nils], .box [.str s, .dob 4 0, .undef], .sl 0 tK out, .dp 0 0 tN ns]
theorem r_impl_ThinKeys_vg_6 (s : Str) (ns : ShapeD) (ks out : List KeyD) (i : Int) (Kn : Fr → Heap → Prop) (K : V → Heap → Prop) : round c_impl_ThinKeys_vg ⟨[1,2,4,5,6],2,true⟩ (lb c_impl_ThinKeys_vg 6 Try.f38) (fr_impl_ThinKeys_vg_6 s ns ks out i) (hp_impl_ThinKeys_vg_6 s ns ks out i) Kn (lkG gp_impl_ThinKeys_vg c_impl_ThinKeys_vg 6 Try.f38 [] K) =
  cond (decide (i < (↑(List.length ks) : Int)))
    (cond (decide (0 ≤ i))
      ((match ks[Int.toNat i]? with
        | some y0 => cond (decide (IntKind.wrap IntKind.i64 (i + 1) < (↑(List.length ks) : Int)))
          (cond (decide (0 ≤ IntKind.wrap IntKind.i64 ((↑(List.length out) : Int) - 1)) && Nat.blt (Int.toNat (IntKind.wrap IntKind.i64 ((↑(List.length out) : Int) - 1))) (List.length out))
            ((match out[Int.toNat (IntKind.wrap IntKind.i64 ((↑(List.length out) : Int) - 1))]? with
              | some x1 => cond (decide (0 ≤ IntKind.wrap IntKind.i64 (i + 1)))
                ((match ks[Int.toNat (IntKind.wrap IntKind.i64 (i + 1))]? with
                  | some y2 => cond (Prod.snd y0 == betw x1 y2 (Prod.fst y0))
                    (Kn [(1, (.ptr 0 0)), (2, (.ptr 1 0)), (4, (.ptr 2 0)), (5, (.obj 3 0)), (6, (.int .i64 (IntKind.wrap IntKind.i64 (i + 1))))] [(.box [(.str (s)), (.vec (.pair (.int .i64) (.pair (.int .i64) (.pair (.int .i64) (.slice (.float .f32))))) (ns)), (.vec (.pair (.int .i64) (.pair (.float .f32) (.pair (.float .f32) (.float .f32)))) (ks))]), (.box [(.str ([])), .nils, .nils]), (.box [(.str (s)), (.dob 4 0), .undef]), (.sl 0 (.pair (.int .i64) (.pair (.float .f32) (.pair (.float .f32) (.float .f32)))) (out)), (.dp 0 0 (.pair (.int .i64) (.pair (.int .i64) (.pair (.int .i64) (.slice (.float .f32))))) (ns))])
                    (cond (decide ((List.length out + 1) * 24 ≤ 140737488355328))
                      (Kn [(1, (.ptr 0 0)), (2, (.ptr 1 0)), (4, (.ptr 2 0)), (5, (.obj 3 0)), (6, (.int .i64 (IntKind.wrap IntKind.i64 (i + 1))))] [(.box [(.str (s)), (.vec (.pair (.int .i64) (.pair (.int .i64) (.pair (.int .i64) (.slice (.float .f32))))) (ns)), (.vec (.pair (.int .i64) (.pair (.float .f32) (.pair (.float .f32) (.float .f32)))) (ks))]), (.box [(.str ([])), .nils, .nils]), (.box [(.str (s)), (.dob 4 0), .undef]), (.sl 0 (.pair (.int .i64) (.pair (.float .f32) (.pair (.float .f32) (.float .f32)))) (out ++ [y0])), (.dp 0 0 (.pair (.int .i64) (.pair (.int .i64) (.pair (.int .i64) (.slice (.float .f32))))) (ns))])
                      (False))
                  | none => False))
                (False)
              | none => False))
            (False))
          (cond (decide ((List.length out + 1) * 24 ≤ 140737488355328))
            (Kn [(1, (.ptr 0 0)), (2, (.ptr 1 0)), (4, (.ptr 2 0)), (5, (.obj 3 0)), (6, (.int .i64 (IntKind.wrap IntKind.i64 (i + 1))))] [(.box [(.str (s)), (.vec (.pair (.int .i64) (.pair (.int .i64) (.pair (.int .i64) (.slice (.float .f32))))) (ns)), (.vec (.pair (.int .i64) (.pair (.float .f32) (.pair (.float .f32) (.float .f32)))) (ks))]), (.box [(.str ([])), .nils, .nils]), (.box [(.str (s)), (.dob 4 0), .undef]), (.sl 0 (.pair (.int .i64) (.pair (.float .f32) (.pair (.float .f32) (.float .f32)))) (out ++ [y0])), (.dp 0 0 (.pair (.int .i64) (.pair (.int .i64) (.pair (.int .i64) (.slice (.float .f32))))) (ns))])
            (False))
        | none => False))
      (False))
    (K (.tuple [(.agg [(.str (s)), (.dob 0 0), (.obj 1 0)]), (.bool true)]) [(.dp 0 0 (.pair (.int .i64) (.pair (.int .i64) (.pair (.int .i64) (.slice (.float .f32))))) (ns)), (.sl 0 (.pair (.int .i64) (.pair (.float .f32) (.pair (.float .f32) (.float .f32)))) (out))]) := by kernel_rfl
theorem w_impl_ThinKeys_vg (s : Str) (ns : ShapeD) (ks : List KeyD) (K : V → Heap → Prop) : wpFnG gp_impl_ThinKeys_vg c_impl_ThinKeys_vg Try.f38 (encAs [.agg tT] ((s, ns, ks), ())) [] K =
  cond (!thingB (s, ns, ks))
    (K (.tuple [(.agg [(.str (Array.toList (ByteArray.data { data := #[] }))), (.dob 0 0), (.obj 1 0)]), (.bool false)]) [(.dp 0 0 (.pair (.int .i64) (.pair (.int .i64) (.pair (.int .i64) (.slice (.float .f32))))) ([])), (.sl 0 (.pair (.int .i64) (.pair (.float .f32) (.pair (.float .f32) (.float .f32)))) ([]))])
    (cond (fitT (s, ns, ks))
      (cond (decide (0 ≤ 0) && (decide (0 ≤ 1) && decide (1 ≤ (↑(List.length ks) : Int))))
        (LoopE c_impl_ThinKeys_vg ⟨[1, 2, 4, 5, 6], 2, true⟩ (lb c_impl_ThinKeys_vg 6 Try.f38) [(1, (.ptr 0 0)), (2, (.ptr 1 0)), (4, (.ptr 2 0)), (5, (.obj 3 0)), (6, (.int .i64 1))] [(.box [(.str (s)), (.vec (.pair (.int .i64) (.pair (.int .i64) (.pair (.int .i64) (.slice (.float .f32))))) (ns)), (.vec (.pair (.int .i64) (.pair (.float .f32) (.pair (.float .f32) (.float .f32)))) (ks))]), (.box [(.str (Array.toList (ByteArray.data { data := #[] }))), .nils, .nils]), (.box [(.str (s)), (.dob 4 0), .undef]), (.sl 0 (.pair (.int .i64) (.pair (.float .f32) (.pair (.float .f32) (.float .f32)))) (List.take 1 ks)), (.dp 0 0 (.pair (.int .i64) (.pair (.int .i64) (.pair (.int .i64) (.slice (.float .f32))))) (ns))] (lkG gp_impl_ThinKeys_vg c_impl_ThinKeys_vg 6 Try.f38 [] K))
        (False))
      (False)) := by kernel_rfl
noncomputable def s_impl_ThinKeys_vg : Sm := semV [.agg tT] [.agg pT, .cell (.imm .bool)] (fun x => match x with | ((s, ns, ks), _) => fitT (s, ns, ks)) fun x => match x with | ((s, ns, ks), _) => (((thinR (s, ns, ks)).1, (thinR (s, ns, ks)).2.1, (thinR (s, ns, ks)).2.2, ()), thingB (s, ns, ks), ())
theorem ok_impl_ThinKeys_vg : FnOkL Try.prog 38 s_impl_ThinKeys_vg := fnOkO_give (fnOkO_runG (C := c_impl_ThinKeys_vg) gp_impl_ThinKeys_vg rfl mixed (.cons ok_impl_Thing_ok (.cons ok_impl_between (.cons ok_impl_SameVector .nil))) .nil (.cons ok_impl_cloneThing .nil) Try.func38 (by kernel_rfl)) rfl fun (x : (((Str) × (ShapeD) × (List KeyD)) × Unit)) wf hg K h => by
  obtain ⟨⟨s, ns, ks⟩, ⟨⟩⟩ := x
  replace hg : (fitT (s, ns, ks)) = true := hg
  replace h : K (tup (valRs [.agg pT, .cell (.imm .bool)] ((((thinR (s, ns, ks)).1, (thinR (s, ns, ks)).2.1, (thinR (s, ns, ks)).2.2, ()), thingB (s, ns, ks), ())) 0)) (thRs [.agg pT, .cell (.imm .bool)] ((((thinR (s, ns, ks)).1, (thinR (s, ns, ks)).2.1, (thinR (s, ns, ks)).2.2, ()), thingB (s, ns, ks), ()))) := h
  rw [w_impl_ThinKeys_vg s ns ks K]
  unfold thinR at h
  cases h1 : thingB (s, ns, ks) with
  | false =>
    simp only [h1, cond_false, Bool.not_false, cond_true] at h ⊢
    exact h
  | true =>
    simp only [h1, cond_true, Bool.not_true, cond_false] at h ⊢
    have hk8 := thingB_keys' h1
    simp only at hk8
    have g4 : (!ks.isEmpty) = true := by cases ks with | nil => simp at hk8 | cons _ _ => rfl
    rw [thinL_at hk8.1] at h
    have hone : ks.take 1 = [ks[0]'(by omega)] := by rw [take_one (show 0 < ks.length by omega), List.take_zero, List.nil_append]
    rw [hg, cond_true, d_t (show (1 : Int) ≤ (ks.length : Int) by omega), hone]
    simp only [Nat.le_refl, Nat.zero_le, decide_true, Bool.and_self, cond_true]
    refine loop_run (σ := Nat × List KeyD) (fun q => fr_impl_ThinKeys_vg_6 s ns ks q.2 q.1) (fun q => hp_impl_ThinKeys_vg_6 s ns ks q.2 q.1) (fun q => 1 ≤ q.1 ∧ q.1 ≤ ks.length ∧ 1 ≤ q.2.length ∧ q.2.length ≤ q.1 ∧ thinGo q.2 (ks.drop q.1) = thinGo [ks[0]'(by omega)] (ks.drop 1)) (fun q => ks.length - q.1) ?_ (1, [ks[0]'(by omega)]) ⟨Nat.le_refl _, hk8.1, Nat.le_refl _, Nat.le_refl _, rfl⟩
    rintro ⟨i, out⟩ ⟨hi1, hi, ho1, ho, hz⟩ Kn hk
    simp only at hi1 hi ho1 ho hz hk ⊢
    rw [r_impl_ThinKeys_vg_6 s ns ks out i Kn K]
    by_cases hlt : i < ks.length
    · have hw : IntKind.i64.wrap ((i : Int) + 1) = ((i + 1 : Nat) : Int) := by rw [i64_of (by omega) (by omega)]; omega
      have hw2 : IntKind.i64.wrap ((out.length : Int) - 1) = ((out.length - 1 : Nat) : Int) := by rw [i64_of (by omega) (by omega)]; omega
      rw [thinGo_at out hlt] at hz
      have goS : skipK out (ks[i]'hlt) (ks.drop (i + 1)) = true → Kn (fr_impl_ThinKeys_vg_6 s ns ks out ((i + 1 : Nat) : Int)) (hp_impl_ThinKeys_vg_6 s ns ks out ((i + 1 : Nat) : Int)) := fun e => by
        rw [e, cond_true] at hz
        exact hk (i + 1, out) ⟨by omega, hlt, ho1, by simp only; omega, hz⟩ (by simp only; omega)
      have goN : skipK out (ks[i]'hlt) (ks.drop (i + 1)) = false → Kn (fr_impl_ThinKeys_vg_6 s ns ks (out ++ [ks[i]'hlt]) ((i + 1 : Nat) : Int)) (hp_impl_ThinKeys_vg_6 s ns ks (out ++ [ks[i]'hlt]) ((i + 1 : Nat) : Int)) := fun e => by
        rw [e, cond_false] at hz
        exact hk (i + 1, out ++ [ks[i]'hlt]) ⟨by omega, hlt, by simp only [List.length_append, List.length_cons, List.length_nil]; omega, by simp only [List.length_append, List.length_cons, List.length_nil]; omega, hz⟩ (by simp only; omega)
      simp only [d_lt hlt, d_0, cond_true, Int.toNat_natCast, get_lt hlt, hw, hw2, blt_t (show out.length - 1 < out.length by omega), Bool.and_self, d_t (show (out.length + 1) * 24 ≤ 140737488355328 by omega)]
      by_cases hl2 : i + 1 < ks.length
      · have hsk := skipK_in out (ks[i]'hlt) hl2
        rw [lastK_at ho1, show (betw (out[out.length - 1]'(by omega)) (ks[i + 1]'hl2) (ks[i]'hlt).1 == (ks[i]'hlt).2) = ((ks[i]'hlt).2 == betw (out[out.length - 1]'(by omega)) (ks[i + 1]'hl2) (ks[i]'hlt).1) from BEq.comm] at hsk
        simp only [d_lt hl2, cond_true, get_lt hl2, get_lt (show out.length - 1 < out.length by omega)]
        rw [← hsk] at *
        cases e : skipK out (ks[i]'hlt) (ks.drop (i + 1)) with
        | true => simp only [cond_true]; exact goS e
        | false => simp only [cond_false]; exact goN e
      · simp only [d_nlt hl2, cond_false]
        exact goN (skipK_end out _ hl2)
    · have : i = ks.length := by omega
      subst this
      simp only [d_nlt hlt, cond_false]
      rw [List.drop_of_length_le (Nat.le_refl _)] at hz
      simp only [thinGo] at hz
      rw [← hz] at h
      exact h
noncomputable def s_impl_ThinKeys_vg_vv : Sm := semG [.agg tT] (fun x => match x with | ((s, ns, ks), _) => fitT (s, ns, ks)) fun x => tup (vecRs [.agg pT, .cell (.imm .bool)] (match x with | ((s, ns, ks), _) => (((thinR (s, ns, ks)).1, (thinR (s, ns, ks)).2.1, (thinR (s, ns, ks)).2.2, ()), thingB (s, ns, ks), ())))
theorem ok_impl_ThinKeys_vg_vv : FnOk Try.prog 38 s_impl_ThinKeys_vg_vv := fnOk_of_give ok_impl_ThinKeys_vg.1

end Go.Proofs.Ytbalmdjicdeeiaa
