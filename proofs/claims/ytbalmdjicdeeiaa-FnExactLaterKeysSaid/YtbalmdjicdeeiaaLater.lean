/- Keys that come later. -/
import Derived.Test.YtbalmdjicdeeiaaOwn
set_option linter.unusedVariables false
set_option linter.unusedSimpArgs false
set_option maxRecDepth 100000
namespace Go.Proofs.Ytbalmdjicdeeiaa
open Go.Ev

def later1 (d : Int) (k : KeyD) : KeyD := (IntKind.i64.wrap (k.1 + d), k.2)
def laterT (t : ThingD) (d : Int) : ThingD := (t.1, t.2.1, t.2.2.map (later1 d))
def laterOk (t : ThingD) (d : Int) : Bool := thingB t && (inR d (-10000) 10000 && thingB (laterT t d))
def laterR (t : ThingD) (d : Int) : ThingD := bif laterOk t d then laterT t d else ([], [], [])
theorem fitT_laterT {t : ThingD} {d : Int} (h : fitT t = true) : fitT (laterT t d) = true := by
  unfold fitT laterT at *
  simpa using h
theorem fitT_laterR {t : ThingD} {d : Int} (h : fitT t = true) : fitT (laterR t d) = true := by
  unfold laterR
  cases laterOk t d
  · rfl
  · exact fitT_laterT h
theorem thingB_keys {t : ThingD} (h : thingB t = true) : 1 ≤ t.2.2.length ∧ t.2.2.length ≤ 8 := by
  unfold thingB keysB at h
  simp only [Bool.and_eq_true] at h
  have := inR_iff.1 h.2.2.1
  omega

/-! spec.LaterKeys -/
noncomputable def a_spec_LaterKeys_vg : Nat → Option Ann := fun n => bif Nat.beq n 5 then some ⟨[1,4,6,7],2,true⟩ else none
noncomputable def c_spec_LaterKeys_vg : Ctx := mkC Try.prog tyT [(56, s_spec_l10Thing), (57, s_spec_l00In)] [] [(71, s_spec_l10Own)] 38 a_spec_LaterKeys_vg 0 false [] true
noncomputable def gp_spec_LaterKeys_vg : List (List (Option Ty)) := List.map giveR [.agg pT, .cell (.imm .bool)]
noncomputable def fr_spec_LaterKeys_vg_5 (t0 : ThingD) (s : Str) (ns : ShapeD) (ks : List KeyD) (d i : Int) : Fr := [(1, .int .i64 d), (4, .ptr 1 0), (6, .ptr 2 0), (7, .int .i64 i)]
noncomputable def hp_spec_LaterKeys_vg_5 (t0 : ThingD) (s : Str) (ns : ShapeD) (ks : List KeyD) (d i : Int) : Heap := [.box (enc tT t0), .box [.str [], .nils, .nils], .box [.str s, .dob 3 0, .obj 4 0], .dp 0 0 tN ns, .sl 0 tK ks]
theorem r_spec_LaterKeys_vg_5 (t0 : ThingD) (s : Str) (ns : ShapeD) (ks : List KeyD) (d i : Int) (Kn : Fr → Heap → Prop) (K : V → Heap → Prop) : round c_spec_LaterKeys_vg ⟨[1,4,6,7],2,true⟩ (lb c_spec_LaterKeys_vg 5 Try.f30) (fr_spec_LaterKeys_vg_5 t0 s ns ks d i) (hp_spec_LaterKeys_vg_5 t0 s ns ks d i) Kn (lkG gp_spec_LaterKeys_vg c_spec_LaterKeys_vg 5 Try.f30 [] K) =
  cond (decide (i < (↑(List.length ks) : Int)))
    (cond (decide (0 ≤ i) && Nat.blt (Int.toNat i) (List.length ks))
      ((match ks[Int.toNat i]? with
        | some x0 => cond (decide (0 ≤ i) && Nat.blt (Int.toNat i) (List.length ks))
          ((match ks[Int.toNat i]? with
            | some x1 => Kn [(1, (.int .i64 (d))), (4, (.ptr 1 0)), (6, (.ptr 2 0)), (7, (.int .i64 (IntKind.wrap IntKind.i64 (i + 1))))] [(.box [(.str (Prod.fst t0)), (.vec (.pair (.int .i64) (.pair (.int .i64) (.pair (.int .i64) (.slice (.float .f32))))) (Prod.fst (Prod.snd t0))), (.vec (.pair (.int .i64) (.pair (.float .f32) (.pair (.float .f32) (.float .f32)))) (Prod.snd (Prod.snd t0)))]), (.box [(.str ([])), .nils, .nils]), (.box [(.str (s)), (.dob 3 0), (.obj 4 0)]), (.dp 0 0 (.pair (.int .i64) (.pair (.int .i64) (.pair (.int .i64) (.slice (.float .f32))))) (ns)), (.sl 0 (.pair (.int .i64) (.pair (.float .f32) (.pair (.float .f32) (.float .f32)))) (List.set ks (Int.toNat i) (IntKind.wrap IntKind.i64 (Prod.fst x0 + d), Prod.snd x1)))]
            | none => False))
          (False)
        | none => False))
      (False))
    (cond (!thingB (s, ns, ks))
      (K (.tuple [(.agg [(.str (Array.toList (ByteArray.data { data := #[] }))), (.dob 0 0), (.obj 1 0)]), (.bool false)]) [(.dp 0 0 (.pair (.int .i64) (.pair (.int .i64) (.pair (.int .i64) (.slice (.float .f32))))) ([])), (.sl 0 (.pair (.int .i64) (.pair (.float .f32) (.pair (.float .f32) (.float .f32)))) ([]))])
      (K (.tuple [(.agg [(.str (s)), (.dob 0 0), (.obj 1 0)]), (.bool true)]) [(.dp 0 0 (.pair (.int .i64) (.pair (.int .i64) (.pair (.int .i64) (.slice (.float .f32))))) (ns)), (.sl 0 (.pair (.int .i64) (.pair (.float .f32) (.pair (.float .f32) (.float .f32)))) (ks))])) := by kernel_rfl
theorem w_spec_LaterKeys_vg (s : Str) (ns : ShapeD) (ks : List KeyD) (d : Int) (K : V → Heap → Prop) : wpFnG gp_spec_LaterKeys_vg c_spec_LaterKeys_vg Try.f30 (encAs [.agg tT, .cell tI] ((s, ns, ks), d, ())) [] K =
  cond (!thingB (s, ns, ks))
    (K (.tuple [(.agg [(.str (Array.toList (ByteArray.data { data := #[] }))), (.dob 0 0), (.obj 1 0)]), (.bool false)]) [(.dp 0 0 (.pair (.int .i64) (.pair (.int .i64) (.pair (.int .i64) (.slice (.float .f32))))) ([])), (.sl 0 (.pair (.int .i64) (.pair (.float .f32) (.pair (.float .f32) (.float .f32)))) ([]))])
    (cond (!inR d (-10000) 10000)
      (K (.tuple [(.agg [(.str (Array.toList (ByteArray.data { data := #[] }))), (.dob 0 0), (.obj 1 0)]), (.bool false)]) [(.dp 0 0 (.pair (.int .i64) (.pair (.int .i64) (.pair (.int .i64) (.slice (.float .f32))))) ([])), (.sl 0 (.pair (.int .i64) (.pair (.float .f32) (.pair (.float .f32) (.float .f32)))) ([]))])
      (cond (fitT (s, ns, ks) && !List.isEmpty ks)
        (LoopE c_spec_LaterKeys_vg ⟨[1, 4, 6, 7], 2, true⟩ (lb c_spec_LaterKeys_vg 5 Try.f30) [(1, (.int .i64 (d))), (4, (.ptr 1 0)), (6, (.ptr 2 0)), (7, (.int .i64 0))] [(.box [(.str (s)), (.vec (.pair (.int .i64) (.pair (.int .i64) (.pair (.int .i64) (.slice (.float .f32))))) (ns)), (.vec (.pair (.int .i64) (.pair (.float .f32) (.pair (.float .f32) (.float .f32)))) (ks))]), (.box [(.str (Array.toList (ByteArray.data { data := #[] }))), .nils, .nils]), (.box [(.str (s)), (.dob 3 0), (.obj 4 0)]), (.dp 0 0 (.pair (.int .i64) (.pair (.int .i64) (.pair (.int .i64) (.slice (.float .f32))))) (ns)), (.sl 0 (.pair (.int .i64) (.pair (.float .f32) (.pair (.float .f32) (.float .f32)))) (ks))] (lkG gp_spec_LaterKeys_vg c_spec_LaterKeys_vg 5 Try.f30 [] K))
        (False))) := by kernel_rfl
noncomputable def s_spec_LaterKeys_vg : Sm := semV [.agg tT, .cell tI] [.agg pT, .cell (.imm .bool)] (fun x => match x with | ((s, ns, ks), d, _) => fitT (s, ns, ks)) fun x => match x with | ((s, ns, ks), d, _) => (((laterR (s, ns, ks) d).1, (laterR (s, ns, ks) d).2.1, (laterR (s, ns, ks) d).2.2, ()), laterOk (s, ns, ks) d, ())
theorem ok_spec_LaterKeys_vg : FnOkL Try.prog 30 s_spec_LaterKeys_vg := fnOkO_give (fnOkO_runG (C := c_spec_LaterKeys_vg) gp_spec_LaterKeys_vg rfl mixed (.cons ok_spec_l10Thing (.cons ok_spec_l00In .nil)) .nil (.cons ok_spec_l10Own .nil) Try.func30 (by kernel_rfl)) rfl fun (x : (((Str) × (ShapeD) × (List KeyD)) × (Int) × Unit)) wf hg K h => by
  obtain ⟨⟨s, ns, ks⟩, d, ⟨⟩⟩ := x
  replace hg : (fitT (s, ns, ks)) = true := hg
  replace h : K (tup (valRs [.agg pT, .cell (.imm .bool)] ((((laterR (s, ns, ks) d).1, (laterR (s, ns, ks) d).2.1, (laterR (s, ns, ks) d).2.2, ()), laterOk (s, ns, ks) d, ())) 0)) (thRs [.agg pT, .cell (.imm .bool)] ((((laterR (s, ns, ks) d).1, (laterR (s, ns, ks) d).2.1, (laterR (s, ns, ks) d).2.2, ()), laterOk (s, ns, ks) d, ()))) := h
  rw [w_spec_LaterKeys_vg s ns ks d K]
  unfold laterR laterOk at h
  cases h1 : thingB (s, ns, ks) with
  | false =>
    simp only [h1, Bool.false_and, cond_false, Bool.not_false, cond_true] at h ⊢
    exact h
  | true =>
    simp only [h1, Bool.true_and, Bool.not_true, cond_false] at h ⊢
    cases h2 : inR d (-10000) 10000 with
    | false =>
      simp only [h2, Bool.false_and, cond_false, Bool.not_false, cond_true] at h ⊢
      exact h
    | true =>
      simp only [h2, Bool.true_and, Bool.not_true, cond_false] at h ⊢
      have hk8 := thingB_keys h1
      simp only at hk8
      have g4 : (!ks.isEmpty) = true := by cases ks with | nil => simp at hk8 | cons _ _ => rfl
      rw [hg, g4, Bool.and_self, cond_true]
      refine loop_run (σ := Nat × List KeyD) (fun q => fr_spec_LaterKeys_vg_5 (s, ns, ks) s ns q.2 d q.1) (fun q => hp_spec_LaterKeys_vg_5 (s, ns, ks) s ns q.2 d q.1) (fun q => q.1 ≤ ks.length ∧ q.2 = (ks.map (later1 d)).take q.1 ++ ks.drop q.1) (fun q => ks.length - q.1) ?_ (0, ks) ⟨Nat.zero_le _, by simp⟩
      rintro ⟨i, zs⟩ ⟨hi, hz⟩ Kn hk
      simp only at hi hz hk ⊢
      have hl : zs.length = ks.length := by rw [hz, List.length_append, List.length_take, List.length_map, List.length_drop]; omega
      rw [r_spec_LaterKeys_vg_5 (s, ns, ks) s ns zs d i Kn K]
      by_cases hlt : i < ks.length
      · have hgt := over_get (zs := ks.map (later1 d)) (xs := ks) (i := i) (by simp; omega) hlt
        have hst := over_step (zs := ks.map (later1 d)) (xs := ks) (i := i) (by simp; omega) hlt
        rw [← hz] at hgt hst
        simp only [List.getElem_map] at hst
        simp only [hl, d_lt hlt, d_0, cond_true, Int.toNat_natCast, blt_t hlt, Bool.and_self, hgt]
        rw [i64_of (show -9223372036854775808 ≤ (i : Int) + 1 by omega) (by omega)]
        exact hk (i + 1, zs.set i (later1 d (ks[i]'hlt))) ⟨hlt, hst⟩ (by simp only; omega)
      · have : i = ks.length := by omega
        subst this
        simp only [hl, d_nlt hlt, cond_false]
        rw [List.take_of_length_le (by simp), List.drop_of_length_le (Nat.le_refl _), List.append_nil] at hz
        subst hz
        cases h3 : thingB (s, ns, ks.map (later1 d)) with
        | false =>
          simp only [laterT, h3, cond_false, Bool.not_false, cond_true] at h ⊢
          exact h
        | true =>
          simp only [laterT, h3, cond_true, Bool.not_true, cond_false] at h ⊢
          exact h
noncomputable def s_spec_LaterKeys_vg_vv : Sm := semG [.agg tT, .cell tI] (fun x => match x with | ((s, ns, ks), d, _) => fitT (s, ns, ks)) fun x => tup (vecRs [.agg pT, .cell (.imm .bool)] (match x with | ((s, ns, ks), d, _) => (((laterR (s, ns, ks) d).1, (laterR (s, ns, ks) d).2.1, (laterR (s, ns, ks) d).2.2, ()), laterOk (s, ns, ks) d, ())))
theorem ok_spec_LaterKeys_vg_vv : FnOk Try.prog 30 s_spec_LaterKeys_vg_vv := fnOk_of_give ok_spec_LaterKeys_vg.1

/-! impl.LaterKeys -/
noncomputable def a_impl_LaterKeys_vg : Nat → Option Ann := fun n => bif Nat.beq n 5 then some ⟨[1,4,6,20,21],2,true⟩ else none
noncomputable def c_impl_LaterKeys_vg : Ctx := mkC Try.prog tyT [(46, s_impl_Thing_ok), (64, s_impl_in)] [] [(72, s_impl_cloneThing)] 39 a_impl_LaterKeys_vg 0 false [] true
noncomputable def gp_impl_LaterKeys_vg : List (List (Option Ty)) := List.map giveR [.agg pT, .cell (.imm .bool)]
noncomputable def fr_impl_LaterKeys_vg_5 (t0 : ThingD) (s : Str) (ns : ShapeD) (ks : List KeyD) (d n i : Int) : Fr := [(1, .int .i64 d), (4, .ptr 1 0), (6, .ptr 2 0), (20, .int .i64 n), (21, .int .i64 i)]
noncomputable def hp_impl_LaterKeys_vg_5 (t0 : ThingD) (s : Str) (ns : ShapeD) (ks : List KeyD) (d n i : Int) : Heap := [.box (enc tT t0), .box [.str [], .nils, .nils], .box [.str s, .dob 3 0, .obj 4 0], .dp 0 0 tN ns, .sl 0 tK ks]
theorem r_impl_LaterKeys_vg_5 (t0 : ThingD) (s : Str) (ns : ShapeD) (ks : List KeyD) (d n i : Int) (Kn : Fr → Heap → Prop) (K : V → Heap → Prop) : round c_impl_LaterKeys_vg ⟨[1,4,6,20,21],2,true⟩ (lb c_impl_LaterKeys_vg 5 Try.f31) (fr_impl_LaterKeys_vg_5 t0 s ns ks d n i) (hp_impl_LaterKeys_vg_5 t0 s ns ks d n i) Kn (lkG gp_impl_LaterKeys_vg c_impl_LaterKeys_vg 5 Try.f31 [] K) =
  cond (decide (i < n))
    (cond (decide (0 ≤ i) && Nat.blt (Int.toNat i) (List.length ks))
      ((match ks[Int.toNat i]? with
        | some x0 => cond (decide (0 ≤ i) && Nat.blt (Int.toNat i) (List.length ks))
          ((match ks[Int.toNat i]? with
            | some x1 => Kn [(1, (.int .i64 (d))), (4, (.ptr 1 0)), (6, (.ptr 2 0)), (20, (.int .i64 (n))), (21, (.int .i64 (IntKind.wrap IntKind.i64 (i + 1))))] [(.box [(.str (Prod.fst t0)), (.vec (.pair (.int .i64) (.pair (.int .i64) (.pair (.int .i64) (.slice (.float .f32))))) (Prod.fst (Prod.snd t0))), (.vec (.pair (.int .i64) (.pair (.float .f32) (.pair (.float .f32) (.float .f32)))) (Prod.snd (Prod.snd t0)))]), (.box [(.str ([])), .nils, .nils]), (.box [(.str (s)), (.dob 3 0), (.obj 4 0)]), (.dp 0 0 (.pair (.int .i64) (.pair (.int .i64) (.pair (.int .i64) (.slice (.float .f32))))) (ns)), (.sl 0 (.pair (.int .i64) (.pair (.float .f32) (.pair (.float .f32) (.float .f32)))) (List.set ks (Int.toNat i) (IntKind.wrap IntKind.i64 (Prod.fst x0 + d), Prod.snd x1)))]
            | none => False))
          (False)
        | none => False))
      (False))
    (cond (!thingB (s, ns, ks))
      (K (.tuple [(.agg [(.str (Array.toList (ByteArray.data { data := #[] }))), (.dob 0 0), (.obj 1 0)]), (.bool false)]) [(.dp 0 0 (.pair (.int .i64) (.pair (.int .i64) (.pair (.int .i64) (.slice (.float .f32))))) ([])), (.sl 0 (.pair (.int .i64) (.pair (.float .f32) (.pair (.float .f32) (.float .f32)))) ([]))])
      (K (.tuple [(.agg [(.str (s)), (.dob 0 0), (.obj 1 0)]), (.bool true)]) [(.dp 0 0 (.pair (.int .i64) (.pair (.int .i64) (.pair (.int .i64) (.slice (.float .f32))))) (ns)), (.sl 0 (.pair (.int .i64) (.pair (.float .f32) (.pair (.float .f32) (.float .f32)))) (ks))])) := by kernel_rfl
theorem w_impl_LaterKeys_vg (s : Str) (ns : ShapeD) (ks : List KeyD) (d : Int) (K : V → Heap → Prop) : wpFnG gp_impl_LaterKeys_vg c_impl_LaterKeys_vg Try.f31 (encAs [.agg tT, .cell tI] ((s, ns, ks), d, ())) [] K =
  cond (!thingB (s, ns, ks))
    (K (.tuple [(.agg [(.str (Array.toList (ByteArray.data { data := #[] }))), (.dob 0 0), (.obj 1 0)]), (.bool false)]) [(.dp 0 0 (.pair (.int .i64) (.pair (.int .i64) (.pair (.int .i64) (.slice (.float .f32))))) ([])), (.sl 0 (.pair (.int .i64) (.pair (.float .f32) (.pair (.float .f32) (.float .f32)))) ([]))])
    (cond (!inR d (-10000) 10000)
      (K (.tuple [(.agg [(.str (Array.toList (ByteArray.data { data := #[] }))), (.dob 0 0), (.obj 1 0)]), (.bool false)]) [(.dp 0 0 (.pair (.int .i64) (.pair (.int .i64) (.pair (.int .i64) (.slice (.float .f32))))) ([])), (.sl 0 (.pair (.int .i64) (.pair (.float .f32) (.pair (.float .f32) (.float .f32)))) ([]))])
      (cond (fitT (s, ns, ks))
        (LoopE c_impl_LaterKeys_vg ⟨[1, 4, 6, 20, 21], 2, true⟩ (lb c_impl_LaterKeys_vg 5 Try.f31) [(1, (.int .i64 (d))), (4, (.ptr 1 0)), (6, (.ptr 2 0)), (20, (.int .i64 ((↑(List.length ks) : Int)))), (21, (.int .i64 0))] [(.box [(.str (s)), (.vec (.pair (.int .i64) (.pair (.int .i64) (.pair (.int .i64) (.slice (.float .f32))))) (ns)), (.vec (.pair (.int .i64) (.pair (.float .f32) (.pair (.float .f32) (.float .f32)))) (ks))]), (.box [(.str (Array.toList (ByteArray.data { data := #[] }))), .nils, .nils]), (.box [(.str (s)), (.dob 3 0), (.obj 4 0)]), (.dp 0 0 (.pair (.int .i64) (.pair (.int .i64) (.pair (.int .i64) (.slice (.float .f32))))) (ns)), (.sl 0 (.pair (.int .i64) (.pair (.float .f32) (.pair (.float .f32) (.float .f32)))) (ks))] (lkG gp_impl_LaterKeys_vg c_impl_LaterKeys_vg 5 Try.f31 [] K))
        (False))) := by kernel_rfl
noncomputable def s_impl_LaterKeys_vg : Sm := semV [.agg tT, .cell tI] [.agg pT, .cell (.imm .bool)] (fun x => match x with | ((s, ns, ks), d, _) => fitT (s, ns, ks)) fun x => match x with | ((s, ns, ks), d, _) => (((laterR (s, ns, ks) d).1, (laterR (s, ns, ks) d).2.1, (laterR (s, ns, ks) d).2.2, ()), laterOk (s, ns, ks) d, ())
theorem ok_impl_LaterKeys_vg : FnOkL Try.prog 31 s_impl_LaterKeys_vg := fnOkO_give (fnOkO_runG (C := c_impl_LaterKeys_vg) gp_impl_LaterKeys_vg rfl mixed (.cons ok_impl_Thing_ok (.cons ok_impl_in .nil)) .nil (.cons ok_impl_cloneThing .nil) Try.func31 (by kernel_rfl)) rfl fun (x : (((Str) × (ShapeD) × (List KeyD)) × (Int) × Unit)) wf hg K h => by
  obtain ⟨⟨s, ns, ks⟩, d, ⟨⟩⟩ := x
  replace hg : (fitT (s, ns, ks)) = true := hg
  replace h : K (tup (valRs [.agg pT, .cell (.imm .bool)] ((((laterR (s, ns, ks) d).1, (laterR (s, ns, ks) d).2.1, (laterR (s, ns, ks) d).2.2, ()), laterOk (s, ns, ks) d, ())) 0)) (thRs [.agg pT, .cell (.imm .bool)] ((((laterR (s, ns, ks) d).1, (laterR (s, ns, ks) d).2.1, (laterR (s, ns, ks) d).2.2, ()), laterOk (s, ns, ks) d, ()))) := h
  rw [w_impl_LaterKeys_vg s ns ks d K]
  unfold laterR laterOk at h
  cases h1 : thingB (s, ns, ks) with
  | false =>
    simp only [h1, Bool.false_and, cond_false, Bool.not_false, cond_true] at h ⊢
    exact h
  | true =>
    simp only [h1, Bool.true_and, Bool.not_true, cond_false] at h ⊢
    cases h2 : inR d (-10000) 10000 with
    | false =>
      simp only [h2, Bool.false_and, cond_false, Bool.not_false, cond_true] at h ⊢
      exact h
    | true =>
      simp only [h2, Bool.true_and, Bool.not_true, cond_false] at h ⊢
      have hk8 := thingB_keys h1
      simp only at hk8
      rw [hg, cond_true]
      refine loop_run (σ := Nat × List KeyD) (fun q => fr_impl_LaterKeys_vg_5 (s, ns, ks) s ns q.2 d ks.length q.1) (fun q => hp_impl_LaterKeys_vg_5 (s, ns, ks) s ns q.2 d ks.length q.1) (fun q => q.1 ≤ ks.length ∧ q.2 = (ks.map (later1 d)).take q.1 ++ ks.drop q.1) (fun q => ks.length - q.1) ?_ (0, ks) ⟨Nat.zero_le _, by simp⟩
      rintro ⟨i, zs⟩ ⟨hi, hz⟩ Kn hk
      simp only at hi hz hk ⊢
      have hl : zs.length = ks.length := by rw [hz, List.length_append, List.length_take, List.length_map, List.length_drop]; omega
      rw [r_impl_LaterKeys_vg_5 (s, ns, ks) s ns zs d ks.length i Kn K]
      by_cases hlt : i < ks.length
      · have hgt := over_get (zs := ks.map (later1 d)) (xs := ks) (i := i) (by simp; omega) hlt
        have hst := over_step (zs := ks.map (later1 d)) (xs := ks) (i := i) (by simp; omega) hlt
        rw [← hz] at hgt hst
        simp only [List.getElem_map] at hst
        simp only [hl, d_lt hlt, d_0, cond_true, Int.toNat_natCast, blt_t hlt, Bool.and_self, hgt]
        rw [i64_of (show -9223372036854775808 ≤ (i : Int) + 1 by omega) (by omega)]
        exact hk (i + 1, zs.set i (later1 d (ks[i]'hlt))) ⟨hlt, hst⟩ (by simp only; omega)
      · have : i = ks.length := by omega
        subst this
        simp only [hl, d_nlt hlt, cond_false]
        rw [List.take_of_length_le (by simp), List.drop_of_length_le (Nat.le_refl _), List.append_nil] at hz
        subst hz
        cases h3 : thingB (s, ns, ks.map (later1 d)) with
        | false =>
          simp only [laterT, h3, cond_false, Bool.not_false, cond_true] at h ⊢
          exact h
        | true =>
          simp only [laterT, h3, cond_true, Bool.not_true, cond_false] at h ⊢
          exact h
noncomputable def s_impl_LaterKeys_vg_vv : Sm := semG [.agg tT, .cell tI] (fun x => match x with | ((s, ns, ks), d, _) => fitT (s, ns, ks)) fun x => tup (vecRs [.agg pT, .cell (.imm .bool)] (match x with | ((s, ns, ks), d, _) => (((laterR (s, ns, ks) d).1, (laterR (s, ns, ks) d).2.1, (laterR (s, ns, ks) d).2.2, ()), laterOk (s, ns, ks) d, ())))
theorem ok_impl_LaterKeys_vg_vv : FnOk Try.prog 31 s_impl_LaterKeys_vg_vv := fnOk_of_give ok_impl_LaterKeys_vg.1

end Go.Proofs.Ytbalmdjicdeeiaa
