/- Places of a thing at its times. -/
import Derived.Test.YtbalmdjicdeeiaaGreatOwn
set_option linter.unusedVariables false
set_option linter.unusedSimpArgs false
set_option maxRecDepth 100000
namespace Go.Proofs.YtbalmdjicdeeiaaGreat
open Go.Ev

--B pAdd V3 → V3 → V3
def pAdd (a b : V3) : V3 := (fadd .f32 a.1 b.1, fadd .f32 a.2.1 b.2.1, fadd .f32 a.2.2 b.2.2)
--B pLess V3 → V3 → V3
def pLess (a b : V3) : V3 := (fsub .f32 a.1 b.1, fsub .f32 a.2.1 b.2.1, fsub .f32 a.2.2 b.2.2)
--B pScale V3 → Nat → V3
def pScale (a : V3) (k : Nat) : V3 := (fmul .f32 a.1 k, fmul .f32 a.2.1 k, fmul .f32 a.2.2 k)
--B pMid V3 → V3 → Nat → V3
def pMid (a b : V3) (k : Nat) : V3 := pAdd a (pScale (pLess b a) k)
--B betw KeyD → KeyD → Int → V3
def betw (a b : KeyD) (t : Int) : V3 := pMid a.2 b.2 (fdiv .f32 (FloatKind.f32.nearest (IntKind.i64.wrap (t - a.1))) (FloatKind.f32.nearest (IntKind.i64.wrap (b.1 - a.1))))

/-! spec.l01Add -/
noncomputable def c_spec_l01Add : Ctx := mkC Tryz.prog tyT [] [] [] 21 (fun _ => none) 0
theorem w_spec_l01Add (a b : V3) (K : V → Heap → Prop) : wpFn c_spec_l01Add Tryz.f126 (encAs [.agg tV, .agg tV] (a, b, ())) [] K =
  K (.agg [(.float .f32 (fadd FloatKind.f32 (Prod.fst a) (Prod.fst b))), (.float .f32 (fadd FloatKind.f32 (Prod.fst (Prod.snd a)) (Prod.fst (Prod.snd b)))), (.float .f32 (fadd FloatKind.f32 (Prod.snd (Prod.snd a)) (Prod.snd (Prod.snd b))))]) [] := by kernel_rfl
noncomputable def s_spec_l01Add : Sm := semT [.agg tV, .agg tV] fun x => match x with | (a, b, _) => .agg (enc tV (pAdd a b))
theorem ok_spec_l01Add : FnOk Tryz.prog 126 s_spec_l01Add := fnOk_typed (fnOk_runC (C := c_spec_l01Add) rfl mixed .nil .nil .nil Tryz.func126 (by kernel_rfl)) fun (x : ((V3) × (V3) × Unit)) wf K h => by
  obtain ⟨a, b, ⟨⟩⟩ := x
  replace h : K (.agg (enc tV (pAdd a b))) [] := h
  rw [w_spec_l01Add a b K]
  exact h

/-! spec.l01Less -/
noncomputable def c_spec_l01Less : Ctx := mkC Tryz.prog tyT [] [] [] 21 (fun _ => none) 0
theorem w_spec_l01Less (a b : V3) (K : V → Heap → Prop) : wpFn c_spec_l01Less Tryz.f128 (encAs [.agg tV, .agg tV] (a, b, ())) [] K =
  K (.agg [(.float .f32 (fsub FloatKind.f32 (Prod.fst a) (Prod.fst b))), (.float .f32 (fsub FloatKind.f32 (Prod.fst (Prod.snd a)) (Prod.fst (Prod.snd b)))), (.float .f32 (fsub FloatKind.f32 (Prod.snd (Prod.snd a)) (Prod.snd (Prod.snd b))))]) [] := by kernel_rfl
noncomputable def s_spec_l01Less : Sm := semT [.agg tV, .agg tV] fun x => match x with | (a, b, _) => .agg (enc tV (pLess a b))
theorem ok_spec_l01Less : FnOk Tryz.prog 128 s_spec_l01Less := fnOk_typed (fnOk_runC (C := c_spec_l01Less) rfl mixed .nil .nil .nil Tryz.func128 (by kernel_rfl)) fun (x : ((V3) × (V3) × Unit)) wf K h => by
  obtain ⟨a, b, ⟨⟩⟩ := x
  replace h : K (.agg (enc tV (pLess a b))) [] := h
  rw [w_spec_l01Less a b K]
  exact h

/-! spec.l01Scale -/
noncomputable def c_spec_l01Scale : Ctx := mkC Tryz.prog tyT [] [] [] 18 (fun _ => none) 0
theorem w_spec_l01Scale (a : V3) (k : Nat) (K : V → Heap → Prop) : wpFn c_spec_l01Scale Tryz.f127 (encAs [.agg tV, .cell tF] (a, k, ())) [] K =
  K (.agg [(.float .f32 (fmul FloatKind.f32 (Prod.fst a) k)), (.float .f32 (fmul FloatKind.f32 (Prod.fst (Prod.snd a)) k)), (.float .f32 (fmul FloatKind.f32 (Prod.snd (Prod.snd a)) k))]) [] := by kernel_rfl
noncomputable def s_spec_l01Scale : Sm := semT [.agg tV, .cell tF] fun x => match x with | (a, k, _) => .agg (enc tV (pScale a k))
theorem ok_spec_l01Scale : FnOk Tryz.prog 127 s_spec_l01Scale := fnOk_typed (fnOk_runC (C := c_spec_l01Scale) rfl mixed .nil .nil .nil Tryz.func127 (by kernel_rfl)) fun (x : ((V3) × (Nat) × Unit)) wf K h => by
  obtain ⟨a, k, ⟨⟩⟩ := x
  replace h : K (.agg (enc tV (pScale a k))) [] := h
  rw [w_spec_l01Scale a k K]
  exact h

/-! spec.l01Between -/
noncomputable def c_spec_l01Between : Ctx := mkC Tryz.prog tyT [(126, s_spec_l01Add), (128, s_spec_l01Less), (127, s_spec_l01Scale)] [] [] 14 (fun _ => none) 0
theorem w_spec_l01Between (a b : V3) (k : Nat) (K : V → Heap → Prop) : wpFn c_spec_l01Between Tryz.f109 (encAs [.agg tV, .agg tV, .cell tF] (a, b, k, ())) [] K =
  K (.agg [(.float .f32 (Prod.fst (pAdd a (pScale (pLess b a) k)))), (.float .f32 (Prod.fst (Prod.snd (pAdd a (pScale (pLess b a) k))))), (.float .f32 (Prod.snd (Prod.snd (pAdd a (pScale (pLess b a) k)))))]) [] := by kernel_rfl
noncomputable def s_spec_l01Between : Sm := semT [.agg tV, .agg tV, .cell tF] fun x => match x with | (a, b, k, _) => .agg (enc tV (pMid a b k))
theorem ok_spec_l01Between : FnOk Tryz.prog 109 s_spec_l01Between := fnOk_typed (fnOk_runC (C := c_spec_l01Between) rfl mixed (.cons ok_spec_l01Add (.cons ok_spec_l01Less (.cons ok_spec_l01Scale .nil))) .nil .nil Tryz.func109 (by kernel_rfl)) fun (x : ((V3) × (V3) × (Nat) × Unit)) wf K h => by
  obtain ⟨a, b, k, ⟨⟩⟩ := x
  replace h : K (.agg (enc tV (pMid a b k))) [] := h
  rw [w_spec_l01Between a b k K]
  exact h

/-! impl.AddVectors -/
noncomputable def c_impl_AddVectors : Ctx := mkC Tryz.prog tyT [] [] [] 21 (fun _ => none) 0
theorem w_impl_AddVectors (a b : V3) (K : V → Heap → Prop) : wpFn c_impl_AddVectors Tryz.f129 (encAs [.agg tV, .agg tV] (a, b, ())) [] K =
  K (.agg [(.float .f32 (fadd FloatKind.f32 (Prod.fst a) (Prod.fst b))), (.float .f32 (fadd FloatKind.f32 (Prod.fst (Prod.snd a)) (Prod.fst (Prod.snd b)))), (.float .f32 (fadd FloatKind.f32 (Prod.snd (Prod.snd a)) (Prod.snd (Prod.snd b))))]) [] := by kernel_rfl
noncomputable def s_impl_AddVectors : Sm := semT [.agg tV, .agg tV] fun x => match x with | (a, b, _) => .agg (enc tV (pAdd a b))
theorem ok_impl_AddVectors : FnOk Tryz.prog 129 s_impl_AddVectors := fnOk_typed (fnOk_runC (C := c_impl_AddVectors) rfl mixed .nil .nil .nil Tryz.func129 (by kernel_rfl)) fun (x : ((V3) × (V3) × Unit)) wf K h => by
  obtain ⟨a, b, ⟨⟩⟩ := x
  replace h : K (.agg (enc tV (pAdd a b))) [] := h
  rw [w_impl_AddVectors a b K]
  exact h

/-! impl.LessVectors -/
noncomputable def c_impl_LessVectors : Ctx := mkC Tryz.prog tyT [] [] [] 21 (fun _ => none) 0
theorem w_impl_LessVectors (a b : V3) (K : V → Heap → Prop) : wpFn c_impl_LessVectors Tryz.f131 (encAs [.agg tV, .agg tV] (a, b, ())) [] K =
  K (.agg [(.float .f32 (fsub FloatKind.f32 (Prod.fst a) (Prod.fst b))), (.float .f32 (fsub FloatKind.f32 (Prod.fst (Prod.snd a)) (Prod.fst (Prod.snd b)))), (.float .f32 (fsub FloatKind.f32 (Prod.snd (Prod.snd a)) (Prod.snd (Prod.snd b))))]) [] := by kernel_rfl
noncomputable def s_impl_LessVectors : Sm := semT [.agg tV, .agg tV] fun x => match x with | (a, b, _) => .agg (enc tV (pLess a b))
theorem ok_impl_LessVectors : FnOk Tryz.prog 131 s_impl_LessVectors := fnOk_typed (fnOk_runC (C := c_impl_LessVectors) rfl mixed .nil .nil .nil Tryz.func131 (by kernel_rfl)) fun (x : ((V3) × (V3) × Unit)) wf K h => by
  obtain ⟨a, b, ⟨⟩⟩ := x
  replace h : K (.agg (enc tV (pLess a b))) [] := h
  rw [w_impl_LessVectors a b K]
  exact h

/-! impl.ScaleVector -/
noncomputable def c_impl_ScaleVector : Ctx := mkC Tryz.prog tyT [] [] [] 18 (fun _ => none) 0
theorem w_impl_ScaleVector (a : V3) (k : Nat) (K : V → Heap → Prop) : wpFn c_impl_ScaleVector Tryz.f130 (encAs [.agg tV, .cell tF] (a, k, ())) [] K =
  K (.agg [(.float .f32 (fmul FloatKind.f32 (Prod.fst a) k)), (.float .f32 (fmul FloatKind.f32 (Prod.fst (Prod.snd a)) k)), (.float .f32 (fmul FloatKind.f32 (Prod.snd (Prod.snd a)) k))]) [] := by kernel_rfl
noncomputable def s_impl_ScaleVector : Sm := semT [.agg tV, .cell tF] fun x => match x with | (a, k, _) => .agg (enc tV (pScale a k))
theorem ok_impl_ScaleVector : FnOk Tryz.prog 130 s_impl_ScaleVector := fnOk_typed (fnOk_runC (C := c_impl_ScaleVector) rfl mixed .nil .nil .nil Tryz.func130 (by kernel_rfl)) fun (x : ((V3) × (Nat) × Unit)) wf K h => by
  obtain ⟨a, k, ⟨⟩⟩ := x
  replace h : K (.agg (enc tV (pScale a k))) [] := h
  rw [w_impl_ScaleVector a k K]
  exact h

/-! impl.BetweenVectors -/
noncomputable def c_impl_BetweenVectors : Ctx := mkC Tryz.prog tyT [(129, s_impl_AddVectors), (131, s_impl_LessVectors), (130, s_impl_ScaleVector)] [] [] 14 (fun _ => none) 0
theorem w_impl_BetweenVectors (a b : V3) (k : Nat) (K : V → Heap → Prop) : wpFn c_impl_BetweenVectors Tryz.f110 (encAs [.agg tV, .agg tV, .cell tF] (a, b, k, ())) [] K =
  K (.agg [(.float .f32 (Prod.fst (pAdd a (pScale (pLess b a) k)))), (.float .f32 (Prod.fst (Prod.snd (pAdd a (pScale (pLess b a) k))))), (.float .f32 (Prod.snd (Prod.snd (pAdd a (pScale (pLess b a) k)))))]) [] := by kernel_rfl
noncomputable def s_impl_BetweenVectors : Sm := semT [.agg tV, .agg tV, .cell tF] fun x => match x with | (a, b, k, _) => .agg (enc tV (pMid a b k))
theorem ok_impl_BetweenVectors : FnOk Tryz.prog 110 s_impl_BetweenVectors := fnOk_typed (fnOk_runC (C := c_impl_BetweenVectors) rfl mixed (.cons ok_impl_AddVectors (.cons ok_impl_LessVectors (.cons ok_impl_ScaleVector .nil))) .nil .nil Tryz.func110 (by kernel_rfl)) fun (x : ((V3) × (V3) × (Nat) × Unit)) wf K h => by
  obtain ⟨a, b, k, ⟨⟩⟩ := x
  replace h : K (.agg (enc tV (pMid a b k))) [] := h
  rw [w_impl_BetweenVectors a b k K]
  exact h

/-! spec.l10Between -/
noncomputable def c_spec_l10Between : Ctx := mkC Tryz.prog tyT [(109, s_spec_l01Between)] [] [] 34 (fun _ => none) 0
theorem w_spec_l10Between (a b : KeyD) (t : Int) (K : V → Heap → Prop) : wpFn c_spec_l10Between Tryz.f75 (encAs [.ref tK, .ref tK, .cell tI] (a, b, t, ())) [] K =
  K (.agg [(.float .f32 (Prod.fst (pMid (Prod.snd a) (Prod.snd b) (fdiv FloatKind.f32 (FloatKind.nearest FloatKind.f32 (IntKind.wrap IntKind.i64 (t - Prod.fst a))) (FloatKind.nearest FloatKind.f32 (IntKind.wrap IntKind.i64 (Prod.fst b - Prod.fst a))))))), (.float .f32 (Prod.fst (Prod.snd (pMid (Prod.snd a) (Prod.snd b) (fdiv FloatKind.f32 (FloatKind.nearest FloatKind.f32 (IntKind.wrap IntKind.i64 (t - Prod.fst a))) (FloatKind.nearest FloatKind.f32 (IntKind.wrap IntKind.i64 (Prod.fst b - Prod.fst a)))))))), (.float .f32 (Prod.snd (Prod.snd (pMid (Prod.snd a) (Prod.snd b) (fdiv FloatKind.f32 (FloatKind.nearest FloatKind.f32 (IntKind.wrap IntKind.i64 (t - Prod.fst a))) (FloatKind.nearest FloatKind.f32 (IntKind.wrap IntKind.i64 (Prod.fst b - Prod.fst a))))))))]) [] := by kernel_rfl
noncomputable def s_spec_l10Between : Sm := semT [.ref tK, .ref tK, .cell tI] fun x => match x with | (a, b, t, _) => .agg (enc tV (betw a b t))
theorem ok_spec_l10Between : FnOk Tryz.prog 75 s_spec_l10Between := fnOk_typed (fnOk_runC (C := c_spec_l10Between) rfl mixed (.cons ok_spec_l01Between .nil) .nil .nil Tryz.func75 (by kernel_rfl)) fun (x : ((KeyD) × (KeyD) × (Int) × Unit)) wf K h => by
  obtain ⟨a, b, t, ⟨⟩⟩ := x
  replace h : K (.agg (enc tV (betw a b t))) [] := h
  rw [w_spec_l10Between a b t K]
  exact h

/-! impl.between -/
noncomputable def c_impl_between : Ctx := mkC Tryz.prog tyT [(110, s_impl_BetweenVectors)] [] [] 24 (fun _ => none) 0
theorem w_impl_between (a b : KeyD) (t : Int) (K : V → Heap → Prop) : wpFn c_impl_between Tryz.f80 (encAs [.agg tK, .agg tK, .cell tI] (a, b, t, ())) [] K =
  K (.agg [(.float .f32 (Prod.fst (pMid (Prod.snd a) (Prod.snd b) (fdiv FloatKind.f32 (FloatKind.nearest FloatKind.f32 (IntKind.wrap IntKind.i64 (t - Prod.fst a))) (FloatKind.nearest FloatKind.f32 (IntKind.wrap IntKind.i64 (Prod.fst b - Prod.fst a))))))), (.float .f32 (Prod.fst (Prod.snd (pMid (Prod.snd a) (Prod.snd b) (fdiv FloatKind.f32 (FloatKind.nearest FloatKind.f32 (IntKind.wrap IntKind.i64 (t - Prod.fst a))) (FloatKind.nearest FloatKind.f32 (IntKind.wrap IntKind.i64 (Prod.fst b - Prod.fst a)))))))), (.float .f32 (Prod.snd (Prod.snd (pMid (Prod.snd a) (Prod.snd b) (fdiv FloatKind.f32 (FloatKind.nearest FloatKind.f32 (IntKind.wrap IntKind.i64 (t - Prod.fst a))) (FloatKind.nearest FloatKind.f32 (IntKind.wrap IntKind.i64 (Prod.fst b - Prod.fst a))))))))]) [] := by kernel_rfl
noncomputable def s_impl_between : Sm := semT [.agg tK, .agg tK, .cell tI] fun x => match x with | (a, b, t, _) => .agg (enc tV (betw a b t))
theorem ok_impl_between : FnOk Tryz.prog 80 s_impl_between := fnOk_typed (fnOk_runC (C := c_impl_between) rfl mixed (.cons ok_impl_BetweenVectors .nil) .nil .nil Tryz.func80 (by kernel_rfl)) fun (x : ((KeyD) × (KeyD) × (Int) × Unit)) wf K h => by
  obtain ⟨a, b, t, ⟨⟩⟩ := x
  replace h : K (.agg (enc tV (betw a b t))) [] := h
  rw [w_impl_between a b t K]
  exact h

def goP (t : Int) : KeyD → List KeyD → V3
  | p, [] => p.2
  | p, k :: r => bif t == k.1 then k.2 else bif decide (t < k.1) then betw p k t else goP t k r
--B placeV List KeyD → Int → V3
def placeV : List KeyD → Int → V3
  | [], _ => (0, 0, 0)
  | k :: r, t => bif decide (t ≤ k.1) then k.2 else goP t k r

theorem goP_at (t : Int) {ks : List KeyD} {i : Nat} (h1 : 1 ≤ i) (hi : i < ks.length) : goP t (ks[i - 1]'(by omega)) (ks.drop i) = bif t == (ks[i]'hi).1 then (ks[i]'hi).2 else bif decide (t < (ks[i]'hi).1) then betw (ks[i - 1]'(by omega)) (ks[i]'hi) t else goP t (ks[i]'hi) (ks.drop (i + 1)) := by
  rw [List.drop_eq_getElem_cons hi]
  rfl
theorem goP_end (t : Int) {ks : List KeyD} (h1 : 1 ≤ ks.length) : goP t (ks[ks.length - 1]'(by omega)) (ks.drop ks.length) = (ks[ks.length - 1]'(by omega)).2 := by
  rw [List.drop_of_length_le (Nat.le_refl _)]
  rfl
theorem placeV_at (t : Int) {ks : List KeyD} (h1 : 1 ≤ ks.length) : placeV ks t = bif decide (t ≤ (ks[0]'(by omega)).1) then (ks[0]'(by omega)).2 else goP t (ks[1 - 1]'(by omega)) (ks.drop 1) := by
  cases ks with
  | nil => simp at h1
  | cons k r => rfl

/-! spec.l10Place -/
noncomputable def a_spec_l10Place : Nat → Option Ann := fun n => bif Nat.beq n 5 then some ⟨[0,1,4,5,6],1,false⟩ else none
noncomputable def c_spec_l10Place : Ctx := mkC Tryz.prog tyT [(75, s_spec_l10Between)] [] [] 85 a_spec_l10Place 0
noncomputable def fr_spec_l10Place_5 (s : Str) (ns : ShapeD) (ks : List KeyD) (t n i : Int) : Fr := [(0, .ref [.str s, .vec tN ns, .vec tK ks] 0), (1, .int .i64 t), (4, .ptr 0 0), (5, .int .i64 n), (6, .int .i64 i)]
noncomputable def hp_spec_l10Place_5 (s : Str) (ns : ShapeD) (ks : List KeyD) (t n i : Int) : Heap := [.box [.float .f32 0, .float .f32 0, .float .f32 0]]
theorem r_spec_l10Place_5 (s : Str) (ns : ShapeD) (ks : List KeyD) (t n i : Int) (Kn : Fr → Heap → Prop) (K : V → Heap → Prop) : round c_spec_l10Place ⟨[0,1,4,5,6],1,false⟩ (lb c_spec_l10Place 5 Tryz.f46) (fr_spec_l10Place_5 s ns ks t n i) (hp_spec_l10Place_5 s ns ks t n i) Kn (lk c_spec_l10Place 5 Tryz.f46 [] K) =
  cond (decide (i < n))
    (cond (decide (0 ≤ i))
      ((match ks[Int.toNat i]? with
        | some y0 => cond (t == Prod.fst y0)
          (cond (decide (0 ≤ i))
            ((match ks[Int.toNat i]? with
              | some y1 => K (.agg [(.float .f32 (Prod.fst (Prod.snd y1))), (.float .f32 (Prod.fst (Prod.snd (Prod.snd y1)))), (.float .f32 (Prod.snd (Prod.snd (Prod.snd y1))))]) []
              | none => False))
            (False))
          (cond (decide (0 ≤ i))
            ((match ks[Int.toNat i]? with
              | some y2 => cond (decide (t < Prod.fst y2))
                (cond (decide (0 ≤ IntKind.wrap IntKind.i64 (i - 1)))
                  ((match ks[Int.toNat (IntKind.wrap IntKind.i64 (i - 1))]? with
                    | some y3 => cond (decide (0 ≤ i))
                      ((match ks[Int.toNat i]? with
                        | some y4 => K (.agg [(.float .f32 (Prod.fst (betw y3 y4 t))), (.float .f32 (Prod.fst (Prod.snd (betw y3 y4 t)))), (.float .f32 (Prod.snd (Prod.snd (betw y3 y4 t))))]) []
                        | none => False))
                      (False)
                    | none => False))
                  (False))
                (Kn [(0, (.ref [(.str (s)), (.vec (.pair (.int .i64) (.pair (.int .i64) (.pair (.int .i64) (.slice (.float .f32))))) (ns)), (.vec (.pair (.int .i64) (.pair (.float .f32) (.pair (.float .f32) (.float .f32)))) (ks))] 0)), (1, (.int .i64 (t))), (4, (.ptr 0 0)), (5, (.int .i64 (n))), (6, (.int .i64 (IntKind.wrap IntKind.i64 (i + 1))))] [(.box [(.float .f32 0), (.float .f32 0), (.float .f32 0)])])
              | none => False))
            (False))
        | none => False))
      (False))
    (cond (decide (0 ≤ IntKind.wrap IntKind.i64 (n - 1)))
      ((match ks[Int.toNat (IntKind.wrap IntKind.i64 (n - 1))]? with
        | some y5 => K (.agg [(.float .f32 (Prod.fst (Prod.snd y5))), (.float .f32 (Prod.fst (Prod.snd (Prod.snd y5)))), (.float .f32 (Prod.snd (Prod.snd (Prod.snd y5))))]) []
        | none => False))
      (False)) := by kernel_rfl
theorem w_spec_l10Place (s : Str) (ns : ShapeD) (ks : List KeyD) (t : Int) (K : V → Heap → Prop) : wpFn c_spec_l10Place Tryz.f46 (encAs [.ref tT, .cell tI] ((s, ns, ks), t, ())) [] K =
  (match ks[0]? with
    | some y0 => cond (decide (t ≤ Prod.fst y0))
      ((match ks[0]? with
        | some y1 => K (.agg [(.float .f32 (Prod.fst (Prod.snd y1))), (.float .f32 (Prod.fst (Prod.snd (Prod.snd y1)))), (.float .f32 (Prod.snd (Prod.snd (Prod.snd y1))))]) []
        | none => False))
      (LoopE c_spec_l10Place ⟨[0, 1, 4, 5, 6], 1, false⟩ (lb c_spec_l10Place 5 Tryz.f46) [(0, (.ref [(.str (s)), (.vec (.pair (.int .i64) (.pair (.int .i64) (.pair (.int .i64) (.slice (.float .f32))))) (ns)), (.vec (.pair (.int .i64) (.pair (.float .f32) (.pair (.float .f32) (.float .f32)))) (ks))] 0)), (1, (.int .i64 (t))), (4, (.ptr 0 0)), (5, (.int .i64 ((↑(List.length ks) : Int)))), (6, (.int .i64 1))] [(.box [(.float .f32 0), (.float .f32 0), (.float .f32 0)])] (lk c_spec_l10Place 5 Tryz.f46 [] K))
    | none => False) := by kernel_rfl
noncomputable def s_spec_l10Place : Sm := semG [.ref tT, .cell tI] (fun x => match x with | ((s, ns, ks), t, _) => decide (1 ≤ ks.length) && decide (ks.length ≤ 8)) fun x => match x with | ((s, ns, ks), t, _) => .agg (enc tV (placeV ks t))
theorem ok_spec_l10Place : FnOk Tryz.prog 46 s_spec_l10Place := fnOk_typedG (fnOk_runC (C := c_spec_l10Place) rfl mixed (.cons ok_spec_l10Between .nil) .nil .nil Tryz.func46 (by kernel_rfl)) fun (x : (((Str) × (ShapeD) × (List KeyD)) × (Int) × Unit)) wf hg K h => by
  obtain ⟨⟨s, ns, ks⟩, t, ⟨⟩⟩ := x
  replace hg : (decide (1 ≤ ks.length) && decide (ks.length ≤ 8)) = true := hg
  replace h : K (.agg (enc tV (placeV ks t))) [] := h
  rw [w_spec_l10Place s ns ks t K]
  simp only [Bool.and_eq_true, decide_eq_true_eq] at hg
  obtain ⟨g1, g2⟩ := hg
  rw [placeV_at t g1] at h
  simp only [get_lt (show 0 < ks.length by omega)]
  cases h1 : decide (t ≤ (ks[0]'(by omega)).1) with
  | true =>
    simp only [h1, cond_true] at h ⊢
    exact h
  | false =>
    simp only [h1, cond_false] at h ⊢
    have key : ∀ i : Nat, 1 ≤ i → (hi : i ≤ ks.length) → (∀ V0, V0 = goP t (ks[i - 1]'(by omega)) (ks.drop i) → K (.agg (enc tV V0)) []) → True := fun _ _ _ _ => trivial
    refine loop_run (σ := Nat) (fun i => fr_spec_l10Place_5 s ns ks t ks.length i) (fun i => hp_spec_l10Place_5 s ns ks t ks.length i) (fun i => 1 ≤ i ∧ ∃ hi : i ≤ ks.length, ∀ (_ : 1 ≤ i), K (.agg (enc tV (goP t (ks[i - 1]'(by omega)) (ks.drop i)))) []) (fun i => ks.length - i) ?_ 1 ⟨Nat.le_refl _, g1, fun _ => h⟩
    rintro i ⟨hi1, hi, hK⟩ Kn hk
    have hK := hK hi1
    rw [r_spec_l10Place_5 s ns ks t ks.length i Kn K]
    have hw : IntKind.i64.wrap ((i : Int) - 1) = ((i - 1 : Nat) : Int) := by rw [i64_of (by omega) (by omega)]; omega
    by_cases hlt : i < ks.length
    · have hs := goP_at t hi1 hlt
      rw [hs] at hK
      simp only [d_lt hlt, d_0, cond_true, Int.toNat_natCast, get_lt hlt, hw, get_lt (show i - 1 < ks.length by omega)]
      rw [i64_of (show -9223372036854775808 ≤ (i : Int) + 1 by omega) (by omega)]
      cases h2 : t == (ks[i]'hlt).1 with
      | true =>
        simp only [h2, cond_true] at hK ⊢
        exact hK
      | false =>
        simp only [h2, cond_false] at hK ⊢
        cases h3 : decide (t < (ks[i]'hlt).1) with
        | true =>
          simp only [h3, cond_true] at hK ⊢
          exact hK
        | false =>
          simp only [h3, cond_false] at hK ⊢
          exact hk (i + 1) ⟨by omega, hlt, fun _ => hK⟩ (by omega)
    · have : i = ks.length := by omega
      subst this
      rw [goP_end t g1] at hK
      simp only [d_nlt hlt, cond_false, hw, d_0, cond_true, Int.toNat_natCast, get_lt (show ks.length - 1 < ks.length by omega)]
      exact hK

/-! impl.placeAt -/
noncomputable def a_impl_placeAt : Nat → Option Ann := fun n => bif Nat.beq n 4 then some ⟨[1,2,4,5],2,false⟩ else none
noncomputable def c_impl_placeAt : Ctx := mkC Tryz.prog tyT [(80, s_impl_between)] [] [] 61 a_impl_placeAt 0
noncomputable def fr_impl_placeAt_4 (s : Str) (ns : ShapeD) (ks : List KeyD) (t i : Int) : Fr := [(1, .int .i64 t), (2, .ptr 0 0), (4, .ptr 1 0), (5, .int .i64 i)]
noncomputable def hp_impl_placeAt_4 (s : Str) (ns : ShapeD) (ks : List KeyD) (t i : Int) : Heap := [.box [.str s, .vec tN ns, .vec tK ks], .box [.float .f32 0, .float .f32 0, .float .f32 0]]
theorem r_impl_placeAt_4 (s : Str) (ns : ShapeD) (ks : List KeyD) (t i : Int) (Kn : Fr → Heap → Prop) (K : V → Heap → Prop) : round c_impl_placeAt ⟨[1,2,4,5],2,false⟩ (lb c_impl_placeAt 4 Tryz.f51) (fr_impl_placeAt_4 s ns ks t i) (hp_impl_placeAt_4 s ns ks t i) Kn (lk c_impl_placeAt 4 Tryz.f51 [] K) =
  cond (decide (i < (↑(List.length ks) : Int)))
    (cond (decide (0 ≤ i))
      ((match ks[Int.toNat i]? with
        | some y0 => cond (t == Prod.fst y0)
          (K (.agg [(.float .f32 (Prod.fst (Prod.snd y0))), (.float .f32 (Prod.fst (Prod.snd (Prod.snd y0)))), (.float .f32 (Prod.snd (Prod.snd (Prod.snd y0))))]) [])
          (cond (decide (t < Prod.fst y0))
            (cond (decide (0 ≤ IntKind.wrap IntKind.i64 (i - 1)))
              ((match ks[Int.toNat (IntKind.wrap IntKind.i64 (i - 1))]? with
                | some y1 => K (.agg [(.float .f32 (Prod.fst (betw y1 y0 t))), (.float .f32 (Prod.fst (Prod.snd (betw y1 y0 t)))), (.float .f32 (Prod.snd (Prod.snd (betw y1 y0 t))))]) []
                | none => False))
              (False))
            (Kn [(1, (.int .i64 (t))), (2, (.ptr 0 0)), (4, (.ptr 1 0)), (5, (.int .i64 (IntKind.wrap IntKind.i64 (i + 1))))] [(.box [(.str (s)), (.vec (.pair (.int .i64) (.pair (.int .i64) (.pair (.int .i64) (.slice (.float .f32))))) (ns)), (.vec (.pair (.int .i64) (.pair (.float .f32) (.pair (.float .f32) (.float .f32)))) (ks))]), (.box [(.float .f32 0), (.float .f32 0), (.float .f32 0)])]))
        | none => False))
      (False))
    (cond (decide (0 ≤ IntKind.wrap IntKind.i64 ((↑(List.length ks) : Int) - 1)))
      ((match ks[Int.toNat (IntKind.wrap IntKind.i64 ((↑(List.length ks) : Int) - 1))]? with
        | some y2 => K (.agg [(.float .f32 (Prod.fst (Prod.snd y2))), (.float .f32 (Prod.fst (Prod.snd (Prod.snd y2)))), (.float .f32 (Prod.snd (Prod.snd (Prod.snd y2))))]) []
        | none => False))
      (False)) := by kernel_rfl
theorem w_impl_placeAt (s : Str) (ns : ShapeD) (ks : List KeyD) (t : Int) (K : V → Heap → Prop) : wpFn c_impl_placeAt Tryz.f51 (encAs [.agg tT, .cell tI] ((s, ns, ks), t, ())) [] K =
  (match ks[0]? with
    | some y0 => cond (decide (t ≤ Prod.fst y0))
      ((match ks[0]? with
        | some y1 => K (.agg [(.float .f32 (Prod.fst (Prod.snd y1))), (.float .f32 (Prod.fst (Prod.snd (Prod.snd y1)))), (.float .f32 (Prod.snd (Prod.snd (Prod.snd y1))))]) []
        | none => False))
      (LoopE c_impl_placeAt ⟨[1, 2, 4, 5], 2, false⟩ (lb c_impl_placeAt 4 Tryz.f51) [(1, (.int .i64 (t))), (2, (.ptr 0 0)), (4, (.ptr 1 0)), (5, (.int .i64 1))] [(.box [(.str (s)), (.vec (.pair (.int .i64) (.pair (.int .i64) (.pair (.int .i64) (.slice (.float .f32))))) (ns)), (.vec (.pair (.int .i64) (.pair (.float .f32) (.pair (.float .f32) (.float .f32)))) (ks))]), (.box [(.float .f32 0), (.float .f32 0), (.float .f32 0)])] (lk c_impl_placeAt 4 Tryz.f51 [] K))
    | none => False) := by kernel_rfl
noncomputable def s_impl_placeAt : Sm := semG [.agg tT, .cell tI] (fun x => match x with | ((s, ns, ks), t, _) => decide (1 ≤ ks.length) && decide (ks.length ≤ 8)) fun x => match x with | ((s, ns, ks), t, _) => .agg (enc tV (placeV ks t))
theorem ok_impl_placeAt : FnOk Tryz.prog 51 s_impl_placeAt := fnOk_typedG (fnOk_runC (C := c_impl_placeAt) rfl mixed (.cons ok_impl_between .nil) .nil .nil Tryz.func51 (by kernel_rfl)) fun (x : (((Str) × (ShapeD) × (List KeyD)) × (Int) × Unit)) wf hg K h => by
  obtain ⟨⟨s, ns, ks⟩, t, ⟨⟩⟩ := x
  replace hg : (decide (1 ≤ ks.length) && decide (ks.length ≤ 8)) = true := hg
  replace h : K (.agg (enc tV (placeV ks t))) [] := h
  rw [w_impl_placeAt s ns ks t K]
  simp only [Bool.and_eq_true, decide_eq_true_eq] at hg
  obtain ⟨g1, g2⟩ := hg
  rw [placeV_at t g1] at h
  simp only [get_lt (show 0 < ks.length by omega)]
  cases h1 : decide (t ≤ (ks[0]'(by omega)).1) with
  | true =>
    simp only [h1, cond_true] at h ⊢
    exact h
  | false =>
    simp only [h1, cond_false] at h ⊢
    have key : ∀ i : Nat, 1 ≤ i → (hi : i ≤ ks.length) → (∀ V0, V0 = goP t (ks[i - 1]'(by omega)) (ks.drop i) → K (.agg (enc tV V0)) []) → True := fun _ _ _ _ => trivial
    refine loop_run (σ := Nat) (fun i => fr_impl_placeAt_4 s ns ks t i) (fun i => hp_impl_placeAt_4 s ns ks t i) (fun i => 1 ≤ i ∧ ∃ hi : i ≤ ks.length, ∀ (_ : 1 ≤ i), K (.agg (enc tV (goP t (ks[i - 1]'(by omega)) (ks.drop i)))) []) (fun i => ks.length - i) ?_ 1 ⟨Nat.le_refl _, g1, fun _ => h⟩
    rintro i ⟨hi1, hi, hK⟩ Kn hk
    have hK := hK hi1
    rw [r_impl_placeAt_4 s ns ks t i Kn K]
    have hw : IntKind.i64.wrap ((i : Int) - 1) = ((i - 1 : Nat) : Int) := by rw [i64_of (by omega) (by omega)]; omega
    by_cases hlt : i < ks.length
    · have hs := goP_at t hi1 hlt
      rw [hs] at hK
      simp only [d_lt hlt, d_0, cond_true, Int.toNat_natCast, get_lt hlt, hw, get_lt (show i - 1 < ks.length by omega)]
      rw [i64_of (show -9223372036854775808 ≤ (i : Int) + 1 by omega) (by omega)]
      cases h2 : t == (ks[i]'hlt).1 with
      | true =>
        simp only [h2, cond_true] at hK ⊢
        exact hK
      | false =>
        simp only [h2, cond_false] at hK ⊢
        cases h3 : decide (t < (ks[i]'hlt).1) with
        | true =>
          simp only [h3, cond_true] at hK ⊢
          exact hK
        | false =>
          simp only [h3, cond_false] at hK ⊢
          exact hk (i + 1) ⟨by omega, hlt, fun _ => hK⟩ (by omega)
    · have : i = ks.length := by omega
      subst this
      rw [goP_end t g1] at hK
      simp only [d_nlt hlt, cond_false, hw, d_0, cond_true, Int.toNat_natCast, get_lt (show ks.length - 1 < ks.length by omega)]
      exact hK

/-! spec.l10Time -/
noncomputable def c_spec_l10Time : Ctx := mkC Tryz.prog tyT [(74, s_spec_l00In)] [] [] 5 (fun _ => none) 0
theorem w_spec_l10Time (n : Int) (K : V → Heap → Prop) : wpFn c_spec_l10Time Tryz.f45 (encAs [.cell tI] (n, ())) [] K =
  K (.bool (inR n 0 10000)) [] := by kernel_rfl
noncomputable def s_spec_l10Time : Sm := semT [.cell tI] fun x => match x with | (n, _) => .bool (inR n 0 10000)
theorem ok_spec_l10Time : FnOk Tryz.prog 45 s_spec_l10Time := fnOk_typed (fnOk_runC (C := c_spec_l10Time) rfl mixed (.cons ok_spec_l00In .nil) .nil .nil Tryz.func45 (by kernel_rfl)) fun (x : ((Int) × Unit)) wf K h => by
  obtain ⟨n, ⟨⟩⟩ := x
  replace h : K (.bool (inR n 0 10000)) [] := h
  rw [w_spec_l10Time n K]
  exact h

/-! impl.timeOk -/
noncomputable def c_impl_timeOk : Ctx := mkC Tryz.prog tyT [(64, s_impl_in)] [] [] 5 (fun _ => none) 0
theorem w_impl_timeOk (n : Int) (K : V → Heap → Prop) : wpFn c_impl_timeOk Tryz.f49 (encAs [.cell tI] (n, ())) [] K =
  K (.bool (inR n 0 10000)) [] := by kernel_rfl
noncomputable def s_impl_timeOk : Sm := semT [.cell tI] fun x => match x with | (n, _) => .bool (inR n 0 10000)
theorem ok_impl_timeOk : FnOk Tryz.prog 49 s_impl_timeOk := fnOk_typed (fnOk_runC (C := c_impl_timeOk) rfl mixed (.cons ok_impl_in .nil) .nil .nil Tryz.func49 (by kernel_rfl)) fun (x : ((Int) × Unit)) wf K h => by
  obtain ⟨n, ⟨⟩⟩ := x
  replace h : K (.bool (inR n 0 10000)) [] := h
  rw [w_impl_timeOk n K]
  exact h


def pathL (ks : List KeyD) (fr st : Int) (n : Nat) : List V3 := (List.range n).map fun (i : Nat) => placeV ks (IntKind.i64.wrap (fr + IntKind.i64.wrap (st * i)))
def pathOk (t : ThingD) (fr st n : Int) : Bool := thingB t && (inR fr 0 10000 && (inR st 0 10000 && (inR n 0 256 && (decide (n ≤ 0) || inR (IntKind.i64.wrap (fr + IntKind.i64.wrap (st * (n - 1)))) 0 10000))))
def pathR (t : ThingD) (fr st n : Int) : List V3 := bif pathOk t fr st n then pathL t.2.2 fr st n.toNat else []

theorem pathL_snoc (ks : List KeyD) (fr st : Int) (i : Nat) : pathL ks fr st i ++ [placeV ks (IntKind.i64.wrap (fr + IntKind.i64.wrap (st * i)))] = pathL ks fr st (i + 1) := by
  unfold pathL
  rw [List.range_succ, List.map_append]
  rfl
theorem pathL_len (ks : List KeyD) (fr st : Int) (n : Nat) : (pathL ks fr st n).length = n := by unfold pathL; simp
theorem thingB_keys' {t : ThingD} (h : thingB t = true) : 1 ≤ t.2.2.length ∧ t.2.2.length ≤ 8 := by
  unfold thingB keysB at h
  simp only [Bool.and_eq_true] at h
  have := inR_iff.1 h.2.2.1
  omega
theorem max_ok {fr st n : Int} (h1 : 0 ≤ n) (h2 : n ≤ 256) (h3 : inR fr 0 10000 = true) : inR (IntKind.i64.wrap (fr + IntKind.i64.wrap (st * bif decide (0 > IntKind.i64.wrap (n - 1)) then 0 else IntKind.i64.wrap (n - 1)))) 0 10000 = (decide (n ≤ 0) || inR (IntKind.i64.wrap (fr + IntKind.i64.wrap (st * (n - 1)))) 0 10000) := by
  have hf := inR_iff.1 h3
  rw [i64_of (show -9223372036854775808 ≤ n - 1 by omega) (by omega)]
  by_cases h : n ≤ 0
  · rw [d_t (show 0 > n - 1 by omega), d_t h, cond_true, Int.mul_zero, i64_of (n := 0) (by omega) (by omega), Int.add_zero, i64_of (by omega) (by omega), h3]
    rfl
  · rw [d_f (show ¬ 0 > n - 1 by omega), d_f h, cond_false, Bool.false_or]



end Go.Proofs.YtbalmdjicdeeiaaGreat
