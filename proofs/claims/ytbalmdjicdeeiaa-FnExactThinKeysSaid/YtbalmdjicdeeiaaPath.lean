/- Places of a thing at its times. -/
import Derived.Test.YtbalmdjicdeeiaaOwn
set_option linter.unusedVariables false
set_option linter.unusedSimpArgs false
set_option maxRecDepth 100000
namespace Go.Proofs.Ytbalmdjicdeeiaa
open Go.Ev

--B pAdd V3 → V3 → V3
def pAdd (a b : V3) : V3 := (fadd .f32 a.1 b.1, fadd .f32 a.2.1 b.2.1, fadd .f32 a.2.2 b.2.2)
--B pLess V3 → V3 → V3
def pLess (a b : V3) : V3 := (fsub .f32 a.1 b.1, fsub .f32 a.2.1 b.2.1, fsub .f32 a.2.2 b.2.2)
--B pScale V3 → Nat → V3
def pScale (a : V3) (k : Nat) : V3 := (fmul .f32 a.1 k, fmul .f32 a.2.1 k, fmul .f32 a.2.2 k)
--B pMid V3 → V3 → Nat → V3
def pMid (a b : V3) (k : Nat) : V3 := pAdd a (pScale (pLess b a) k)
--B betw KeyD → KeyD → Int → V3
def betw (a b : KeyD) (t : Int) : V3 := pMid a.2 b.2 (fdiv .f32 (FloatKind.f32.nearest (IntKind.i64.wrap (t - a.1))) (FloatKind.f32.nearest (IntKind.i64.wrap (b.1 - a.1))))

/-! spec.l01Add -/
noncomputable def c_spec_l01Add : Ctx := mkC Try.prog tyT [] [] [] 21 (fun _ => none) 0
theorem w_spec_l01Add (a b : V3) (K : V → Heap → Prop) : wpFn c_spec_l01Add Try.f152 (encAs [.agg tV, .agg tV] (a, b, ())) [] K =
  K (.agg [(.float .f32 (fadd FloatKind.f32 (Prod.fst a) (Prod.fst b))), (.float .f32 (fadd FloatKind.f32 (Prod.fst (Prod.snd a)) (Prod.fst (Prod.snd b)))), (.float .f32 (fadd FloatKind.f32 (Prod.snd (Prod.snd a)) (Prod.snd (Prod.snd b))))]) [] := by kernel_rfl
noncomputable def s_spec_l01Add : Sm := semT [.agg tV, .agg tV] fun x => match x with | (a, b, _) => .agg (enc tV (pAdd a b))
theorem ok_spec_l01Add : FnOk Try.prog 152 s_spec_l01Add := fnOk_typed (fnOk_runC (C := c_spec_l01Add) rfl mixed .nil .nil .nil Try.func152 (by kernel_rfl)) fun (x : ((V3) × (V3) × Unit)) wf K h => by
  obtain ⟨a, b, ⟨⟩⟩ := x
  replace h : K (.agg (enc tV (pAdd a b))) [] := h
  rw [w_spec_l01Add a b K]
  exact h

/-! spec.l01Less -/
noncomputable def c_spec_l01Less : Ctx := mkC Try.prog tyT [] [] [] 21 (fun _ => none) 0
theorem w_spec_l01Less (a b : V3) (K : V → Heap → Prop) : wpFn c_spec_l01Less Try.f154 (encAs [.agg tV, .agg tV] (a, b, ())) [] K =
  K (.agg [(.float .f32 (fsub FloatKind.f32 (Prod.fst a) (Prod.fst b))), (.float .f32 (fsub FloatKind.f32 (Prod.fst (Prod.snd a)) (Prod.fst (Prod.snd b)))), (.float .f32 (fsub FloatKind.f32 (Prod.snd (Prod.snd a)) (Prod.snd (Prod.snd b))))]) [] := by kernel_rfl
noncomputable def s_spec_l01Less : Sm := semT [.agg tV, .agg tV] fun x => match x with | (a, b, _) => .agg (enc tV (pLess a b))
theorem ok_spec_l01Less : FnOk Try.prog 154 s_spec_l01Less := fnOk_typed (fnOk_runC (C := c_spec_l01Less) rfl mixed .nil .nil .nil Try.func154 (by kernel_rfl)) fun (x : ((V3) × (V3) × Unit)) wf K h => by
  obtain ⟨a, b, ⟨⟩⟩ := x
  replace h : K (.agg (enc tV (pLess a b))) [] := h
  rw [w_spec_l01Less a b K]
  exact h

/-! spec.l01Scale -/
noncomputable def c_spec_l01Scale : Ctx := mkC Try.prog tyT [] [] [] 18 (fun _ => none) 0
theorem w_spec_l01Scale (a : V3) (k : Nat) (K : V → Heap → Prop) : wpFn c_spec_l01Scale Try.f153 (encAs [.agg tV, .cell tF] (a, k, ())) [] K =
  K (.agg [(.float .f32 (fmul FloatKind.f32 (Prod.fst a) k)), (.float .f32 (fmul FloatKind.f32 (Prod.fst (Prod.snd a)) k)), (.float .f32 (fmul FloatKind.f32 (Prod.snd (Prod.snd a)) k))]) [] := by kernel_rfl
noncomputable def s_spec_l01Scale : Sm := semT [.agg tV, .cell tF] fun x => match x with | (a, k, _) => .agg (enc tV (pScale a k))
theorem ok_spec_l01Scale : FnOk Try.prog 153 s_spec_l01Scale := fnOk_typed (fnOk_runC (C := c_spec_l01Scale) rfl mixed .nil .nil .nil Try.func153 (by kernel_rfl)) fun (x : ((V3) × (Nat) × Unit)) wf K h => by
  obtain ⟨a, k, ⟨⟩⟩ := x
  replace h : K (.agg (enc tV (pScale a k))) [] := h
  rw [w_spec_l01Scale a k K]
  exact h

/-! spec.l01Between -/
noncomputable def c_spec_l01Between : Ctx := mkC Try.prog tyT [(152, s_spec_l01Add), (154, s_spec_l01Less), (153, s_spec_l01Scale)] [] [] 14 (fun _ => none) 0
theorem w_spec_l01Between (a b : V3) (k : Nat) (K : V → Heap → Prop) : wpFn c_spec_l01Between Try.f119 (encAs [.agg tV, .agg tV, .cell tF] (a, b, k, ())) [] K =
  K (.agg [(.float .f32 (Prod.fst (pAdd a (pScale (pLess b a) k)))), (.float .f32 (Prod.fst (Prod.snd (pAdd a (pScale (pLess b a) k))))), (.float .f32 (Prod.snd (Prod.snd (pAdd a (pScale (pLess b a) k)))))]) [] := by kernel_rfl
noncomputable def s_spec_l01Between : Sm := semT [.agg tV, .agg tV, .cell tF] fun x => match x with | (a, b, k, _) => .agg (enc tV (pMid a b k))
theorem ok_spec_l01Between : FnOk Try.prog 119 s_spec_l01Between := fnOk_typed (fnOk_runC (C := c_spec_l01Between) rfl mixed (.cons ok_spec_l01Add (.cons ok_spec_l01Less (.cons ok_spec_l01Scale .nil))) .nil .nil Try.func119 (by kernel_rfl)) fun (x : ((V3) × (V3) × (Nat) × Unit)) wf K h => by
  obtain ⟨a, b, k, ⟨⟩⟩ := x
  replace h : K (.agg (enc tV (pMid a b k))) [] := h
  rw [w_spec_l01Between a b k K]
  exact h

/-! impl.AddVectors -/
noncomputable def c_impl_AddVectors : Ctx := mkC Try.prog tyT [] [] [] 21 (fun _ => none) 0
theorem w_impl_AddVectors (a b : V3) (K : V → Heap → Prop) : wpFn c_impl_AddVectors Try.f158 (encAs [.agg tV, .agg tV] (a, b, ())) [] K =
  K (.agg [(.float .f32 (fadd FloatKind.f32 (Prod.fst a) (Prod.fst b))), (.float .f32 (fadd FloatKind.f32 (Prod.fst (Prod.snd a)) (Prod.fst (Prod.snd b)))), (.float .f32 (fadd FloatKind.f32 (Prod.snd (Prod.snd a)) (Prod.snd (Prod.snd b))))]) [] := by kernel_rfl
noncomputable def s_impl_AddVectors : Sm := semT [.agg tV, .agg tV] fun x => match x with | (a, b, _) => .agg (enc tV (pAdd a b))
theorem ok_impl_AddVectors : FnOk Try.prog 158 s_impl_AddVectors := fnOk_typed (fnOk_runC (C := c_impl_AddVectors) rfl mixed .nil .nil .nil Try.func158 (by kernel_rfl)) fun (x : ((V3) × (V3) × Unit)) wf K h => by
  obtain ⟨a, b, ⟨⟩⟩ := x
  replace h : K (.agg (enc tV (pAdd a b))) [] := h
  rw [w_impl_AddVectors a b K]
  exact h

/-! impl.LessVectors -/
noncomputable def c_impl_LessVectors : Ctx := mkC Try.prog tyT [] [] [] 21 (fun _ => none) 0
theorem w_impl_LessVectors (a b : V3) (K : V → Heap → Prop) : wpFn c_impl_LessVectors Try.f160 (encAs [.agg tV, .agg tV] (a, b, ())) [] K =
  K (.agg [(.float .f32 (fsub FloatKind.f32 (Prod.fst a) (Prod.fst b))), (.float .f32 (fsub FloatKind.f32 (Prod.fst (Prod.snd a)) (Prod.fst (Prod.snd b)))), (.float .f32 (fsub FloatKind.f32 (Prod.snd (Prod.snd a)) (Prod.snd (Prod.snd b))))]) [] := by kernel_rfl
noncomputable def s_impl_LessVectors : Sm := semT [.agg tV, .agg tV] fun x => match x with | (a, b, _) => .agg (enc tV (pLess a b))
theorem ok_impl_LessVectors : FnOk Try.prog 160 s_impl_LessVectors := fnOk_typed (fnOk_runC (C := c_impl_LessVectors) rfl mixed .nil .nil .nil Try.func160 (by kernel_rfl)) fun (x : ((V3) × (V3) × Unit)) wf K h => by
  obtain ⟨a, b, ⟨⟩⟩ := x
  replace h : K (.agg (enc tV (pLess a b))) [] := h
  rw [w_impl_LessVectors a b K]
  exact h

/-! impl.ScaleVector -/
noncomputable def c_impl_ScaleVector : Ctx := mkC Try.prog tyT [] [] [] 18 (fun _ => none) 0
theorem w_impl_ScaleVector (a : V3) (k : Nat) (K : V → Heap → Prop) : wpFn c_impl_ScaleVector Try.f159 (encAs [.agg tV, .cell tF] (a, k, ())) [] K =
  K (.agg [(.float .f32 (fmul FloatKind.f32 (Prod.fst a) k)), (.float .f32 (fmul FloatKind.f32 (Prod.fst (Prod.snd a)) k)), (.float .f32 (fmul FloatKind.f32 (Prod.snd (Prod.snd a)) k))]) [] := by kernel_rfl
noncomputable def s_impl_ScaleVector : Sm := semT [.agg tV, .cell tF] fun x => match x with | (a, k, _) => .agg (enc tV (pScale a k))
theorem ok_impl_ScaleVector : FnOk Try.prog 159 s_impl_ScaleVector := fnOk_typed (fnOk_runC (C := c_impl_ScaleVector) rfl mixed .nil .nil .nil Try.func159 (by kernel_rfl)) fun (x : ((V3) × (Nat) × Unit)) wf K h => by
  obtain ⟨a, k, ⟨⟩⟩ := x
  replace h : K (.agg (enc tV (pScale a k))) [] := h
  rw [w_impl_ScaleVector a k K]
  exact h

/-! impl.BetweenVectors -/
noncomputable def c_impl_BetweenVectors : Ctx := mkC Try.prog tyT [(158, s_impl_AddVectors), (160, s_impl_LessVectors), (159, s_impl_ScaleVector)] [] [] 14 (fun _ => none) 0
theorem w_impl_BetweenVectors (a b : V3) (k : Nat) (K : V → Heap → Prop) : wpFn c_impl_BetweenVectors Try.f123 (encAs [.agg tV, .agg tV, .cell tF] (a, b, k, ())) [] K =
  K (.agg [(.float .f32 (Prod.fst (pAdd a (pScale (pLess b a) k)))), (.float .f32 (Prod.fst (Prod.snd (pAdd a (pScale (pLess b a) k))))), (.float .f32 (Prod.snd (Prod.snd (pAdd a (pScale (pLess b a) k)))))]) [] := by kernel_rfl
noncomputable def s_impl_BetweenVectors : Sm := semT [.agg tV, .agg tV, .cell tF] fun x => match x with | (a, b, k, _) => .agg (enc tV (pMid a b k))
theorem ok_impl_BetweenVectors : FnOk Try.prog 123 s_impl_BetweenVectors := fnOk_typed (fnOk_runC (C := c_impl_BetweenVectors) rfl mixed (.cons ok_impl_AddVectors (.cons ok_impl_LessVectors (.cons ok_impl_ScaleVector .nil))) .nil .nil Try.func123 (by kernel_rfl)) fun (x : ((V3) × (V3) × (Nat) × Unit)) wf K h => by
  obtain ⟨a, b, k, ⟨⟩⟩ := x
  replace h : K (.agg (enc tV (pMid a b k))) [] := h
  rw [w_impl_BetweenVectors a b k K]
  exact h

/-! spec.l10Between -/
noncomputable def c_spec_l10Between : Ctx := mkC Try.prog tyT [(119, s_spec_l01Between)] [] [] 34 (fun _ => none) 0
theorem w_spec_l10Between (a b : KeyD) (t : Int) (K : V → Heap → Prop) : wpFn c_spec_l10Between Try.f82 (encAs [.ref tK, .ref tK, .cell tI] (a, b, t, ())) [] K =
  K (.agg [(.float .f32 (Prod.fst (pMid (Prod.snd a) (Prod.snd b) (fdiv FloatKind.f32 (FloatKind.nearest FloatKind.f32 (IntKind.wrap IntKind.i64 (t - Prod.fst a))) (FloatKind.nearest FloatKind.f32 (IntKind.wrap IntKind.i64 (Prod.fst b - Prod.fst a))))))), (.float .f32 (Prod.fst (Prod.snd (pMid (Prod.snd a) (Prod.snd b) (fdiv FloatKind.f32 (FloatKind.nearest FloatKind.f32 (IntKind.wrap IntKind.i64 (t - Prod.fst a))) (FloatKind.nearest FloatKind.f32 (IntKind.wrap IntKind.i64 (Prod.fst b - Prod.fst a)))))))), (.float .f32 (Prod.snd (Prod.snd (pMid (Prod.snd a) (Prod.snd b) (fdiv FloatKind.f32 (FloatKind.nearest FloatKind.f32 (IntKind.wrap IntKind.i64 (t - Prod.fst a))) (FloatKind.nearest FloatKind.f32 (IntKind.wrap IntKind.i64 (Prod.fst b - Prod.fst a))))))))]) [] := by kernel_rfl
noncomputable def s_spec_l10Between : Sm := semT [.ref tK, .ref tK, .cell tI] fun x => match x with | (a, b, t, _) => .agg (enc tV (betw a b t))
theorem ok_spec_l10Between : FnOk Try.prog 82 s_spec_l10Between := fnOk_typed (fnOk_runC (C := c_spec_l10Between) rfl mixed (.cons ok_spec_l01Between .nil) .nil .nil Try.func82 (by kernel_rfl)) fun (x : ((KeyD) × (KeyD) × (Int) × Unit)) wf K h => by
  obtain ⟨a, b, t, ⟨⟩⟩ := x
  replace h : K (.agg (enc tV (betw a b t))) [] := h
  rw [w_spec_l10Between a b t K]
  exact h

/-! impl.between -/
noncomputable def c_impl_between : Ctx := mkC Try.prog tyT [(123, s_impl_BetweenVectors)] [] [] 24 (fun _ => none) 0
theorem w_impl_between (a b : KeyD) (t : Int) (K : V → Heap → Prop) : wpFn c_impl_between Try.f85 (encAs [.agg tK, .agg tK, .cell tI] (a, b, t, ())) [] K =
  K (.agg [(.float .f32 (Prod.fst (pMid (Prod.snd a) (Prod.snd b) (fdiv FloatKind.f32 (FloatKind.nearest FloatKind.f32 (IntKind.wrap IntKind.i64 (t - Prod.fst a))) (FloatKind.nearest FloatKind.f32 (IntKind.wrap IntKind.i64 (Prod.fst b - Prod.fst a))))))), (.float .f32 (Prod.fst (Prod.snd (pMid (Prod.snd a) (Prod.snd b) (fdiv FloatKind.f32 (FloatKind.nearest FloatKind.f32 (IntKind.wrap IntKind.i64 (t - Prod.fst a))) (FloatKind.nearest FloatKind.f32 (IntKind.wrap IntKind.i64 (Prod.fst b - Prod.fst a)))))))), (.float .f32 (Prod.snd (Prod.snd (pMid (Prod.snd a) (Prod.snd b) (fdiv FloatKind.f32 (FloatKind.nearest FloatKind.f32 (IntKind.wrap IntKind.i64 (t - Prod.fst a))) (FloatKind.nearest FloatKind.f32 (IntKind.wrap IntKind.i64 (Prod.fst b - Prod.fst a))))))))]) [] := by kernel_rfl
noncomputable def s_impl_between : Sm := semT [.agg tK, .agg tK, .cell tI] fun x => match x with | (a, b, t, _) => .agg (enc tV (betw a b t))
theorem ok_impl_between : FnOk Try.prog 85 s_impl_between := fnOk_typed (fnOk_runC (C := c_impl_between) rfl mixed (.cons ok_impl_BetweenVectors .nil) .nil .nil Try.func85 (by kernel_rfl)) fun (x : ((KeyD) × (KeyD) × (Int) × Unit)) wf K h => by
  obtain ⟨a, b, t, ⟨⟩⟩ := x
  replace h : K (.agg (enc tV (betw a b t))) [] := h
  rw [w_impl_between a b t K]
  exact h

def goP (t : Int) : KeyD → List KeyD → V3
  | p, [] => p.2
  | p, k :: r => bif t == k.1 then k.2 else bif decide (t < k.1) then betw p k t else goP t k r
--B placeV List KeyD → Int → V3
def placeV : List KeyD → Int → V3
  | [], _ => (0, 0, 0)
  | k :: r, t => bif decide (t ≤ k.1) then k.2 else goP t k r

theorem goP_at (t : Int) {ks : List KeyD} {i : Nat} (h1 : 1 ≤ i) (hi : i < ks.length) : goP t (ks[i - 1]'(by omega)) (ks.drop i) = bif t == (ks[i]'hi).1 then (ks[i]'hi).2 else bif decide (t < (ks[i]'hi).1) then betw (ks[i - 1]'(by omega)) (ks[i]'hi) t else goP t (ks[i]'hi) (ks.drop (i + 1)) := by
  rw [List.drop_eq_getElem_cons hi]
  rfl
theorem goP_end (t : Int) {ks : List KeyD} (h1 : 1 ≤ ks.length) : goP t (ks[ks.length - 1]'(by omega)) (ks.drop ks.length) = (ks[ks.length - 1]'(by omega)).2 := by
  rw [List.drop_of_length_le (Nat.le_refl _)]
  rfl
theorem placeV_at (t : Int) {ks : List KeyD} (h1 : 1 ≤ ks.length) : placeV ks t = bif decide (t ≤ (ks[0]'(by omega)).1) then (ks[0]'(by omega)).2 else goP t (ks[1 - 1]'(by omega)) (ks.drop 1) := by
  cases ks with
  | nil => simp at h1
  | cons k r => rfl

/-! spec.l10Place -/
noncomputable def a_spec_l10Place : Nat → Option Ann := fun n => bif Nat.beq n 5 then some ⟨[0,1,4,5,6],1,false⟩ else none
noncomputable def c_spec_l10Place : Ctx := mkC Try.prog tyT [(82, s_spec_l10Between)] [] [] 85 a_spec_l10Place 0
noncomputable def fr_spec_l10Place_5 (s : Str) (ns : ShapeD) (ks : List KeyD) (t n i : Int) : Fr := [(0, .ref [.str s, .vec tN ns, .vec tK ks] 0), (1, .int .i64 t), (4, .ptr 0 0), (5, .int .i64 n), (6, .int .i64 i)]
noncomputable def hp_spec_l10Place_5 (s : Str) (ns : ShapeD) (ks : List KeyD) (t n i : Int) : Heap := [.box [.float .f32 0, .float .f32 0, .float .f32 0]]
theorem r_spec_l10Place_5 (s : Str) (ns : ShapeD) (ks : List KeyD) (t n i : Int) (Kn : Fr → Heap → Prop) (K : V → Heap → Prop) : round c_spec_l10Place ⟨[0,1,4,5,6],1,false⟩ (lb c_spec_l10Place 5 Try.f60) (fr_spec_l10Place_5 s ns ks t n i) (hp_spec_l10Place_5 s ns ks t n i) Kn (lk c_spec_l10Place 5 Try.f60 [] K) =
  cond (decide (i < n))
    (cond (decide (0 ≤ i))
      ((match ks[Int.toNat i]? with
        | some y0 => cond (t == Prod.fst y0)
          (cond (decide (0 ≤ i))
            ((match ks[Int.toNat i]? with
              | some y1 => K (.agg [(.float .f32 (Prod.fst (Prod.snd y1))), (.float .f32 (Prod.fst (Prod.snd (Prod.snd y1)))), (.float .f32 (Prod.snd (Prod.snd (Prod.snd y1))))]) []
              | none => False))
            (False))
          (cond (decide (0 ≤ i))
            ((match ks[Int.toNat i]? with
              | some y2 => cond (decide (t < Prod.fst y2))
                (cond (decide (0 ≤ IntKind.wrap IntKind.i64 (i - 1)))
                  ((match ks[Int.toNat (IntKind.wrap IntKind.i64 (i - 1))]? with
                    | some y3 => cond (decide (0 ≤ i))
                      ((match ks[Int.toNat i]? with
                        | some y4 => K (.agg [(.float .f32 (Prod.fst (betw y3 y4 t))), (.float .f32 (Prod.fst (Prod.snd (betw y3 y4 t)))), (.float .f32 (Prod.snd (Prod.snd (betw y3 y4 t))))]) []
                        | none => False))
                      (False)
                    | none => False))
                  (False))
                (Kn [(0, (.ref [(.str (s)), (.vec (.pair (.int .i64) (.pair (.int .i64) (.pair (.int .i64) (.slice (.float .f32))))) (ns)), (.vec (.pair (.int .i64) (.pair (.float .f32) (.pair (.float .f32) (.float .f32)))) (ks))] 0)), (1, (.int .i64 (t))), (4, (.ptr 0 0)), (5, (.int .i64 (n))), (6, (.int .i64 (IntKind.wrap IntKind.i64 (i + 1))))] [(.box [(.float .f32 0), (.float .f32 0), (.float .f32 0)])])
              | none => False))
            (False))
        | none => False))
      (False))
    (cond (decide (0 ≤ IntKind.wrap IntKind.i64 (n - 1)))
      ((match ks[Int.toNat (IntKind.wrap IntKind.i64 (n - 1))]? with
        | some y5 => K (.agg [(.float .f32 (Prod.fst (Prod.snd y5))), (.float .f32 (Prod.fst (Prod.snd (Prod.snd y5)))), (.float .f32 (Prod.snd (Prod.snd (Prod.snd y5))))]) []
        | none => False))
      (False)) := by kernel_rfl
theorem w_spec_l10Place (s : Str) (ns : ShapeD) (ks : List KeyD) (t : Int) (K : V → Heap → Prop) : wpFn c_spec_l10Place Try.f60 (encAs [.ref tT, .cell tI] ((s, ns, ks), t, ())) [] K =
  (match ks[0]? with
    | some y0 => cond (decide (t ≤ Prod.fst y0))
      ((match ks[0]? with
        | some y1 => K (.agg [(.float .f32 (Prod.fst (Prod.snd y1))), (.float .f32 (Prod.fst (Prod.snd (Prod.snd y1)))), (.float .f32 (Prod.snd (Prod.snd (Prod.snd y1))))]) []
        | none => False))
      (LoopE c_spec_l10Place ⟨[0, 1, 4, 5, 6], 1, false⟩ (lb c_spec_l10Place 5 Try.f60) [(0, (.ref [(.str (s)), (.vec (.pair (.int .i64) (.pair (.int .i64) (.pair (.int .i64) (.slice (.float .f32))))) (ns)), (.vec (.pair (.int .i64) (.pair (.float .f32) (.pair (.float .f32) (.float .f32)))) (ks))] 0)), (1, (.int .i64 (t))), (4, (.ptr 0 0)), (5, (.int .i64 ((↑(List.length ks) : Int)))), (6, (.int .i64 1))] [(.box [(.float .f32 0), (.float .f32 0), (.float .f32 0)])] (lk c_spec_l10Place 5 Try.f60 [] K))
    | none => False) := by kernel_rfl
noncomputable def s_spec_l10Place : Sm := semG [.ref tT, .cell tI] (fun x => match x with | ((s, ns, ks), t, _) => decide (1 ≤ ks.length) && decide (ks.length ≤ 8)) fun x => match x with | ((s, ns, ks), t, _) => .agg (enc tV (placeV ks t))
theorem ok_spec_l10Place : FnOk Try.prog 60 s_spec_l10Place := fnOk_typedG (fnOk_runC (C := c_spec_l10Place) rfl mixed (.cons ok_spec_l10Between .nil) .nil .nil Try.func60 (by kernel_rfl)) fun (x : (((Str) × (ShapeD) × (List KeyD)) × (Int) × Unit)) wf hg K h => by
  obtain ⟨⟨s, ns, ks⟩, t, ⟨⟩⟩ := x
  replace hg : (decide (1 ≤ ks.length) && decide (ks.length ≤ 8)) = true := hg
  replace h : K (.agg (enc tV (placeV ks t))) [] := h
  rw [w_spec_l10Place s ns ks t K]
  simp only [Bool.and_eq_true, decide_eq_true_eq] at hg
  obtain ⟨g1, g2⟩ := hg
  rw [placeV_at t g1] at h
  simp only [get_lt (show 0 < ks.length by omega)]
  cases h1 : decide (t ≤ (ks[0]'(by omega)).1) with
  | true =>
    simp only [h1, cond_true] at h ⊢
    exact h
  | false =>
    simp only [h1, cond_false] at h ⊢
    have key : ∀ i : Nat, 1 ≤ i → (hi : i ≤ ks.length) → (∀ V0, V0 = goP t (ks[i - 1]'(by omega)) (ks.drop i) → K (.agg (enc tV V0)) []) → True := fun _ _ _ _ => trivial
    refine loop_run (σ := Nat) (fun i => fr_spec_l10Place_5 s ns ks t ks.length i) (fun i => hp_spec_l10Place_5 s ns ks t ks.length i) (fun i => 1 ≤ i ∧ ∃ hi : i ≤ ks.length, ∀ (_ : 1 ≤ i), K (.agg (enc tV (goP t (ks[i - 1]'(by omega)) (ks.drop i)))) []) (fun i => ks.length - i) ?_ 1 ⟨Nat.le_refl _, g1, fun _ => h⟩
    rintro i ⟨hi1, hi, hK⟩ Kn hk
    have hK := hK hi1
    rw [r_spec_l10Place_5 s ns ks t ks.length i Kn K]
    have hw : IntKind.i64.wrap ((i : Int) - 1) = ((i - 1 : Nat) : Int) := by rw [i64_of (by omega) (by omega)]; omega
    by_cases hlt : i < ks.length
    · have hs := goP_at t hi1 hlt
      rw [hs] at hK
      simp only [d_lt hlt, d_0, cond_true, Int.toNat_natCast, get_lt hlt, hw, get_lt (show i - 1 < ks.length by omega)]
      rw [i64_of (show -9223372036854775808 ≤ (i : Int) + 1 by omega) (by omega)]
      cases h2 : t == (ks[i]'hlt).1 with
      | true =>
        simp only [h2, cond_true] at hK ⊢
        exact hK
      | false =>
        simp only [h2, cond_false] at hK ⊢
        cases h3 : decide (t < (ks[i]'hlt).1) with
        | true =>
          simp only [h3, cond_true] at hK ⊢
          exact hK
        | false =>
          simp only [h3, cond_false] at hK ⊢
          exact hk (i + 1) ⟨by omega, hlt, fun _ => hK⟩ (by omega)
    · have : i = ks.length := by omega
      subst this
      rw [goP_end t g1] at hK
      simp only [d_nlt hlt, cond_false, hw, d_0, cond_true, Int.toNat_natCast, get_lt (show ks.length - 1 < ks.length by omega)]
      exact hK

/-! impl.placeAt -/
noncomputable def a_impl_placeAt : Nat → Option Ann := fun n => bif Nat.beq n 4 then some ⟨[1,2,4,5],2,false⟩ else none
noncomputable def c_impl_placeAt : Ctx := mkC Try.prog tyT [(85, s_impl_between)] [] [] 61 a_impl_placeAt 0
noncomputable def fr_impl_placeAt_4 (s : Str) (ns : ShapeD) (ks : List KeyD) (t i : Int) : Fr := [(1, .int .i64 t), (2, .ptr 0 0), (4, .ptr 1 0), (5, .int .i64 i)]
noncomputable def hp_impl_placeAt_4 (s : Str) (ns : ShapeD) (ks : List KeyD) (t i : Int) : Heap := [.box [.str s, .vec tN ns, .vec tK ks], .box [.float .f32 0, .float .f32 0, .float .f32 0]]
theorem r_impl_placeAt_4 (s : Str) (ns : ShapeD) (ks : List KeyD) (t i : Int) (Kn : Fr → Heap → Prop) (K : V → Heap → Prop) : round c_impl_placeAt ⟨[1,2,4,5],2,false⟩ (lb c_impl_placeAt 4 Try.f65) (fr_impl_placeAt_4 s ns ks t i) (hp_impl_placeAt_4 s ns ks t i) Kn (lk c_impl_placeAt 4 Try.f65 [] K) =
  cond (decide (i < (↑(List.length ks) : Int)))
    (cond (decide (0 ≤ i))
      ((match ks[Int.toNat i]? with
        | some y0 => cond (t == Prod.fst y0)
          (K (.agg [(.float .f32 (Prod.fst (Prod.snd y0))), (.float .f32 (Prod.fst (Prod.snd (Prod.snd y0)))), (.float .f32 (Prod.snd (Prod.snd (Prod.snd y0))))]) [])
          (cond (decide (t < Prod.fst y0))
            (cond (decide (0 ≤ IntKind.wrap IntKind.i64 (i - 1)))
              ((match ks[Int.toNat (IntKind.wrap IntKind.i64 (i - 1))]? with
                | some y1 => K (.agg [(.float .f32 (Prod.fst (betw y1 y0 t))), (.float .f32 (Prod.fst (Prod.snd (betw y1 y0 t)))), (.float .f32 (Prod.snd (Prod.snd (betw y1 y0 t))))]) []
                | none => False))
              (False))
            (Kn [(1, (.int .i64 (t))), (2, (.ptr 0 0)), (4, (.ptr 1 0)), (5, (.int .i64 (IntKind.wrap IntKind.i64 (i + 1))))] [(.box [(.str (s)), (.vec (.pair (.int .i64) (.pair (.int .i64) (.pair (.int .i64) (.slice (.float .f32))))) (ns)), (.vec (.pair (.int .i64) (.pair (.float .f32) (.pair (.float .f32) (.float .f32)))) (ks))]), (.box [(.float .f32 0), (.float .f32 0), (.float .f32 0)])]))
        | none => False))
      (False))
    (cond (decide (0 ≤ IntKind.wrap IntKind.i64 ((↑(List.length ks) : Int) - 1)))
      ((match ks[Int.toNat (IntKind.wrap IntKind.i64 ((↑(List.length ks) : Int) - 1))]? with
        | some y2 => K (.agg [(.float .f32 (Prod.fst (Prod.snd y2))), (.float .f32 (Prod.fst (Prod.snd (Prod.snd y2)))), (.float .f32 (Prod.snd (Prod.snd (Prod.snd y2))))]) []
        | none => False))
      (False)) := by kernel_rfl
theorem w_impl_placeAt (s : Str) (ns : ShapeD) (ks : List KeyD) (t : Int) (K : V → Heap → Prop) : wpFn c_impl_placeAt Try.f65 (encAs [.agg tT, .cell tI] ((s, ns, ks), t, ())) [] K =
  (match ks[0]? with
    | some y0 => cond (decide (t ≤ Prod.fst y0))
      ((match ks[0]? with
        | some y1 => K (.agg [(.float .f32 (Prod.fst (Prod.snd y1))), (.float .f32 (Prod.fst (Prod.snd (Prod.snd y1)))), (.float .f32 (Prod.snd (Prod.snd (Prod.snd y1))))]) []
        | none => False))
      (LoopE c_impl_placeAt ⟨[1, 2, 4, 5], 2, false⟩ (lb c_impl_placeAt 4 Try.f65) [(1, (.int .i64 (t))), (2, (.ptr 0 0)), (4, (.ptr 1 0)), (5, (.int .i64 1))] [(.box [(.str (s)), (.vec (.pair (.int .i64) (.pair (.int .i64) (.pair (.int .i64) (.slice (.float .f32))))) (ns)), (.vec (.pair (.int .i64) (.pair (.float .f32) (.pair (.float .f32) (.float .f32)))) (ks))]), (.box [(.float .f32 0), (.float .f32 0), (.float .f32 0)])] (lk c_impl_placeAt 4 Try.f65 [] K))
    | none => False) := by kernel_rfl
noncomputable def s_impl_placeAt : Sm := semG [.agg tT, .cell tI] (fun x => match x with | ((s, ns, ks), t, _) => decide (1 ≤ ks.length) && decide (ks.length ≤ 8)) fun x => match x with | ((s, ns, ks), t, _) => .agg (enc tV (placeV ks t))
theorem ok_impl_placeAt : FnOk Try.prog 65 s_impl_placeAt := fnOk_typedG (fnOk_runC (C := c_impl_placeAt) rfl mixed (.cons ok_impl_between .nil) .nil .nil Try.func65 (by kernel_rfl)) fun (x : (((Str) × (ShapeD) × (List KeyD)) × (Int) × Unit)) wf hg K h => by
  obtain ⟨⟨s, ns, ks⟩, t, ⟨⟩⟩ := x
  replace hg : (decide (1 ≤ ks.length) && decide (ks.length ≤ 8)) = true := hg
  replace h : K (.agg (enc tV (placeV ks t))) [] := h
  rw [w_impl_placeAt s ns ks t K]
  simp only [Bool.and_eq_true, decide_eq_true_eq] at hg
  obtain ⟨g1, g2⟩ := hg
  rw [placeV_at t g1] at h
  simp only [get_lt (show 0 < ks.length by omega)]
  cases h1 : decide (t ≤ (ks[0]'(by omega)).1) with
  | true =>
    simp only [h1, cond_true] at h ⊢
    exact h
  | false =>
    simp only [h1, cond_false] at h ⊢
    have key : ∀ i : Nat, 1 ≤ i → (hi : i ≤ ks.length) → (∀ V0, V0 = goP t (ks[i - 1]'(by omega)) (ks.drop i) → K (.agg (enc tV V0)) []) → True := fun _ _ _ _ => trivial
    refine loop_run (σ := Nat) (fun i => fr_impl_placeAt_4 s ns ks t i) (fun i => hp_impl_placeAt_4 s ns ks t i) (fun i => 1 ≤ i ∧ ∃ hi : i ≤ ks.length, ∀ (_ : 1 ≤ i), K (.agg (enc tV (goP t (ks[i - 1]'(by omega)) (ks.drop i)))) []) (fun i => ks.length - i) ?_ 1 ⟨Nat.le_refl _, g1, fun _ => h⟩
    rintro i ⟨hi1, hi, hK⟩ Kn hk
    have hK := hK hi1
    rw [r_impl_placeAt_4 s ns ks t i Kn K]
    have hw : IntKind.i64.wrap ((i : Int) - 1) = ((i - 1 : Nat) : Int) := by rw [i64_of (by omega) (by omega)]; omega
    by_cases hlt : i < ks.length
    · have hs := goP_at t hi1 hlt
      rw [hs] at hK
      simp only [d_lt hlt, d_0, cond_true, Int.toNat_natCast, get_lt hlt, hw, get_lt (show i - 1 < ks.length by omega)]
      rw [i64_of (show -9223372036854775808 ≤ (i : Int) + 1 by omega) (by omega)]
      cases h2 : t == (ks[i]'hlt).1 with
      | true =>
        simp only [h2, cond_true] at hK ⊢
        exact hK
      | false =>
        simp only [h2, cond_false] at hK ⊢
        cases h3 : decide (t < (ks[i]'hlt).1) with
        | true =>
          simp only [h3, cond_true] at hK ⊢
          exact hK
        | false =>
          simp only [h3, cond_false] at hK ⊢
          exact hk (i + 1) ⟨by omega, hlt, fun _ => hK⟩ (by omega)
    · have : i = ks.length := by omega
      subst this
      rw [goP_end t g1] at hK
      simp only [d_nlt hlt, cond_false, hw, d_0, cond_true, Int.toNat_natCast, get_lt (show ks.length - 1 < ks.length by omega)]
      exact hK

/-! spec.l10Time -/
noncomputable def c_spec_l10Time : Ctx := mkC Try.prog tyT [(57, s_spec_l00In)] [] [] 5 (fun _ => none) 0
theorem w_spec_l10Time (n : Int) (K : V → Heap → Prop) : wpFn c_spec_l10Time Try.f58 (encAs [.cell tI] (n, ())) [] K =
  K (.bool (inR n 0 10000)) [] := by kernel_rfl
noncomputable def s_spec_l10Time : Sm := semT [.cell tI] fun x => match x with | (n, _) => .bool (inR n 0 10000)
theorem ok_spec_l10Time : FnOk Try.prog 58 s_spec_l10Time := fnOk_typed (fnOk_runC (C := c_spec_l10Time) rfl mixed (.cons ok_spec_l00In .nil) .nil .nil Try.func58 (by kernel_rfl)) fun (x : ((Int) × Unit)) wf K h => by
  obtain ⟨n, ⟨⟩⟩ := x
  replace h : K (.bool (inR n 0 10000)) [] := h
  rw [w_spec_l10Time n K]
  exact h

/-! impl.timeOk -/
noncomputable def c_impl_timeOk : Ctx := mkC Try.prog tyT [(64, s_impl_in)] [] [] 5 (fun _ => none) 0
theorem w_impl_timeOk (n : Int) (K : V → Heap → Prop) : wpFn c_impl_timeOk Try.f63 (encAs [.cell tI] (n, ())) [] K =
  K (.bool (inR n 0 10000)) [] := by kernel_rfl
noncomputable def s_impl_timeOk : Sm := semT [.cell tI] fun x => match x with | (n, _) => .bool (inR n 0 10000)
theorem ok_impl_timeOk : FnOk Try.prog 63 s_impl_timeOk := fnOk_typed (fnOk_runC (C := c_impl_timeOk) rfl mixed (.cons ok_impl_in .nil) .nil .nil Try.func63 (by kernel_rfl)) fun (x : ((Int) × Unit)) wf K h => by
  obtain ⟨n, ⟨⟩⟩ := x
  replace h : K (.bool (inR n 0 10000)) [] := h
  rw [w_impl_timeOk n K]
  exact h

/-! spec.l00Max -/
noncomputable def c_spec_l00Max : Ctx := mkC Try.prog tyT [] [] [] 10 (fun _ => none) 0
theorem w_spec_l00Max (a c : Int) (K : V → Heap → Prop) : wpFn c_spec_l00Max Try.f59 (encAs [.cell tI, .cell tI] (a, c, ())) [] K =
  cond (decide (a > c))
    (K (.int .i64 (a)) [])
    (K (.int .i64 (c)) []) := by kernel_rfl
noncomputable def s_spec_l00Max : Sm := semT [.cell tI, .cell tI] fun x => match x with | (a, c, _) => .int .i64 (bif decide (a > c) then a else c)
theorem ok_spec_l00Max : FnOk Try.prog 59 s_spec_l00Max := fnOk_typed (fnOk_runC (C := c_spec_l00Max) rfl mixed .nil .nil .nil Try.func59 (by kernel_rfl)) fun (x : ((Int) × (Int) × Unit)) wf K h => by
  obtain ⟨a, c, ⟨⟩⟩ := x
  replace h : K (.int .i64 (bif decide (a > c) then a else c)) [] := h
  rw [w_spec_l00Max a c K]
  revert h
  cases decide (a > c) <;> exact id

def pathL (ks : List KeyD) (fr st : Int) (n : Nat) : List V3 := (List.range n).map fun (i : Nat) => placeV ks (IntKind.i64.wrap (fr + IntKind.i64.wrap (st * i)))
def pathOk (t : ThingD) (fr st n : Int) : Bool := thingB t && (inR fr 0 10000 && (inR st 0 10000 && (inR n 0 256 && (decide (n ≤ 0) || inR (IntKind.i64.wrap (fr + IntKind.i64.wrap (st * (n - 1)))) 0 10000))))
def pathR (t : ThingD) (fr st n : Int) : List V3 := bif pathOk t fr st n then pathL t.2.2 fr st n.toNat else []

theorem pathL_snoc (ks : List KeyD) (fr st : Int) (i : Nat) : pathL ks fr st i ++ [placeV ks (IntKind.i64.wrap (fr + IntKind.i64.wrap (st * i)))] = pathL ks fr st (i + 1) := by
  unfold pathL
  rw [List.range_succ, List.map_append]
  rfl
theorem pathL_len (ks : List KeyD) (fr st : Int) (n : Nat) : (pathL ks fr st n).length = n := by unfold pathL; simp
theorem thingB_keys' {t : ThingD} (h : thingB t = true) : 1 ≤ t.2.2.length ∧ t.2.2.length ≤ 8 := by
  unfold thingB keysB at h
  simp only [Bool.and_eq_true] at h
  have := inR_iff.1 h.2.2.1
  omega
theorem max_ok {fr st n : Int} (h1 : 0 ≤ n) (h2 : n ≤ 256) (h3 : inR fr 0 10000 = true) : inR (IntKind.i64.wrap (fr + IntKind.i64.wrap (st * bif decide (0 > IntKind.i64.wrap (n - 1)) then 0 else IntKind.i64.wrap (n - 1)))) 0 10000 = (decide (n ≤ 0) || inR (IntKind.i64.wrap (fr + IntKind.i64.wrap (st * (n - 1)))) 0 10000) := by
  have hf := inR_iff.1 h3
  rw [i64_of (show -9223372036854775808 ≤ n - 1 by omega) (by omega)]
  by_cases h : n ≤ 0
  · rw [d_t (show 0 > n - 1 by omega), d_t h, cond_true, Int.mul_zero, i64_of (n := 0) (by omega) (by omega), Int.add_zero, i64_of (by omega) (by omega), h3]
    rfl
  · rw [d_f (show ¬ 0 > n - 1 by omega), d_f h, cond_false, Bool.false_or]

/-! spec.PathOf -/
noncomputable def a_spec_PathOf_vg : Nat → Option Ann := fun n => bif Nat.beq n 5 then some ⟨[1,2,3,4,10,11],2,false⟩ else none
noncomputable def c_spec_PathOf_vg : Ctx := mkC Try.prog tyT [(56, s_spec_l10Thing), (57, s_spec_l00In), (58, s_spec_l10Time), (59, s_spec_l00Max), (60, s_spec_l10Place)] [] [] 56 a_spec_PathOf_vg 0
noncomputable def gp_spec_PathOf_vg : List (List (Option Ty)) := List.map giveR [.cell (.own tV), .cell (.imm .bool)]
noncomputable def fr_spec_PathOf_vg_5 (s : Str) (ns : ShapeD) (ks : List KeyD) (fr st n : Int) (out : List V3) (i : Int) : Fr := [(1, .int .i64 fr), (2, .int .i64 st), (3, .int .i64 n), (4, .ptr 0 0), (10, .obj 1 0), (11, .int .i64 i)]
noncomputable def hp_spec_PathOf_vg_5 (s : Str) (ns : ShapeD) (ks : List KeyD) (fr st n : Int) (out : List V3) (i : Int) : Heap := [.box [.str s, .vec tN ns, .vec tK ks], .sl 0 tV out]
theorem r_spec_PathOf_vg_5 (s : Str) (ns : ShapeD) (ks : List KeyD) (fr st n : Int) (out : List V3) (i : Int) (Kn : Fr → Heap → Prop) (K : V → Heap → Prop) : round c_spec_PathOf_vg ⟨[1,2,3,4,10,11],2,false⟩ (lb c_spec_PathOf_vg 5 Try.f22) (fr_spec_PathOf_vg_5 s ns ks fr st n out i) (hp_spec_PathOf_vg_5 s ns ks fr st n out i) Kn (lkG gp_spec_PathOf_vg c_spec_PathOf_vg 5 Try.f22 [] K) =
  cond (decide (i < n))
    (cond (decide (1 ≤ List.length ks) && decide (List.length ks ≤ 8))
      (cond (decide ((List.length out + 1) * 12 ≤ 140737488355328))
        (Kn [(1, (.int .i64 (fr))), (2, (.int .i64 (st))), (3, (.int .i64 (n))), (4, (.ptr 0 0)), (10, (.obj 1 0)), (11, (.int .i64 (IntKind.wrap IntKind.i64 (i + 1))))] [(.box [(.str (s)), (.vec (.pair (.int .i64) (.pair (.int .i64) (.pair (.int .i64) (.slice (.float .f32))))) (ns)), (.vec (.pair (.int .i64) (.pair (.float .f32) (.pair (.float .f32) (.float .f32)))) (ks))]), (.sl 0 (.pair (.float .f32) (.pair (.float .f32) (.float .f32))) (out ++ [placeV ks (IntKind.wrap IntKind.i64 (fr + IntKind.wrap IntKind.i64 (st * i)))]))])
        (False))
      (False))
    (K (.tuple [(.obj 0 0), (.bool true)]) [(.sl 0 (.pair (.float .f32) (.pair (.float .f32) (.float .f32))) (out))]) := by kernel_rfl
theorem w_spec_PathOf_vg (s : Str) (ns : ShapeD) (ks : List KeyD) (fr st n : Int) (K : V → Heap → Prop) : wpFnG gp_spec_PathOf_vg c_spec_PathOf_vg Try.f22 (encAs [.agg tT, .cell tI, .cell tI, .cell tI] ((s, ns, ks), fr, st, n, ())) [] K =
  cond (!thingB (s, ns, ks))
    (K (.tuple [(.obj 0 0), (.bool false)]) [(.sl 0 (.pair (.float .f32) (.pair (.float .f32) (.float .f32))) ([]))])
    (cond (!inR n 0 256)
      (K (.tuple [(.obj 0 0), (.bool false)]) [(.sl 0 (.pair (.float .f32) (.pair (.float .f32) (.float .f32))) ([]))])
      (cond (!inR fr 0 10000)
        (K (.tuple [(.obj 0 0), (.bool false)]) [(.sl 0 (.pair (.float .f32) (.pair (.float .f32) (.float .f32))) ([]))])
        (cond (!inR st 0 10000)
          (K (.tuple [(.obj 0 0), (.bool false)]) [(.sl 0 (.pair (.float .f32) (.pair (.float .f32) (.float .f32))) ([]))])
          (cond (!inR (IntKind.wrap IntKind.i64 (fr + IntKind.wrap IntKind.i64 (st * bif decide (0 > IntKind.wrap IntKind.i64 (n - 1)) then 0 else IntKind.wrap IntKind.i64 (n - 1)))) 0 10000)
            (K (.tuple [(.obj 0 0), (.bool false)]) [(.sl 0 (.pair (.float .f32) (.pair (.float .f32) (.float .f32))) ([]))])
            (LoopE c_spec_PathOf_vg ⟨[1, 2, 3, 4, 10, 11], 2, false⟩ (lb c_spec_PathOf_vg 5 Try.f22) [(1, (.int .i64 (fr))), (2, (.int .i64 (st))), (3, (.int .i64 (n))), (4, (.ptr 0 0)), (10, (.obj 1 0)), (11, (.int .i64 0))] [(.box [(.str (s)), (.vec (.pair (.int .i64) (.pair (.int .i64) (.pair (.int .i64) (.slice (.float .f32))))) (ns)), (.vec (.pair (.int .i64) (.pair (.float .f32) (.pair (.float .f32) (.float .f32)))) (ks))]), (.sl 0 (.pair (.float .f32) (.pair (.float .f32) (.float .f32))) ([]))] (lkG gp_spec_PathOf_vg c_spec_PathOf_vg 5 Try.f22 [] K)))))) := by kernel_rfl
noncomputable def s_spec_PathOf_vg : Sm := semV [.agg tT, .cell tI, .cell tI, .cell tI] [.cell (.own tV), .cell (.imm .bool)] (fun x => match x with | ((s, ns, ks), fr, st, n, _) => true) fun x => match x with | ((s, ns, ks), fr, st, n, _) => (pathR (s, ns, ks) fr st n, pathOk (s, ns, ks) fr st n, ())
theorem ok_spec_PathOf_vg : FnOkL Try.prog 22 s_spec_PathOf_vg := fnOkO_give (fnOkO_runG (C := c_spec_PathOf_vg) gp_spec_PathOf_vg rfl mixed (.cons ok_spec_l10Thing (.cons ok_spec_l00In (.cons ok_spec_l10Time (.cons ok_spec_l00Max (.cons ok_spec_l10Place .nil))))) .nil .nil Try.func22 (by kernel_rfl)) rfl fun (x : (((Str) × (ShapeD) × (List KeyD)) × (Int) × (Int) × (Int) × Unit)) wf hg K h => by
  obtain ⟨⟨s, ns, ks⟩, fr, st, n, ⟨⟩⟩ := x
  replace h : K (tup (valRs [.cell (.own tV), .cell (.imm .bool)] ((pathR (s, ns, ks) fr st n, pathOk (s, ns, ks) fr st n, ())) 0)) (thRs [.cell (.own tV), .cell (.imm .bool)] ((pathR (s, ns, ks) fr st n, pathOk (s, ns, ks) fr st n, ()))) := h
  rw [w_spec_PathOf_vg s ns ks fr st n K]
  unfold pathR pathOk at h
  cases h1 : thingB (s, ns, ks) with
  | false => simp only [h1, Bool.false_and, cond_false, Bool.not_false, cond_true] at h ⊢; exact h
  | true =>
  simp only [h1, Bool.true_and, Bool.not_true, cond_false] at h ⊢
  cases h2 : inR n 0 256 with
  | false => simp only [h2, Bool.false_and, Bool.and_false, cond_false, Bool.not_false, cond_true] at h ⊢; exact h
  | true =>
  simp only [h2, Bool.true_and, Bool.not_true, cond_false] at h ⊢
  cases h3 : inR fr 0 10000 with
  | false => simp only [h3, Bool.false_and, cond_false, Bool.not_false, cond_true] at h ⊢; exact h
  | true =>
  simp only [h3, Bool.true_and, Bool.not_true, cond_false] at h ⊢
  cases h4 : inR st 0 10000 with
  | false => simp only [h4, Bool.false_and, cond_false, Bool.not_false, cond_true] at h ⊢; exact h
  | true =>
  simp only [h4, Bool.true_and, Bool.not_true, cond_false] at h ⊢
  rw [max_ok (inR_iff.1 h2).1 (inR_iff.1 h2).2 h3]
  cases h5 : (decide (n ≤ 0) || inR (IntKind.i64.wrap (fr + IntKind.i64.wrap (st * (n - 1)))) 0 10000) with
  | false => simp only [h5, cond_false, Bool.not_false, cond_true] at h ⊢; exact h
  | true =>
      simp only [h5, Bool.not_true, cond_true, cond_false] at h ⊢
      have hk8 := thingB_keys' h1
      simp only at hk8
      have hn := inR_iff.1 h2
      refine loop_run (σ := Nat × List V3) (fun q => fr_spec_PathOf_vg_5 s ns ks fr st n q.2 q.1) (fun q => hp_spec_PathOf_vg_5 s ns ks fr st n q.2 q.1) (fun q => (q.1 : Int) ≤ n ∧ q.2 = pathL ks fr st q.1) (fun q => n.toNat - q.1) ?_ (0, []) ⟨hn.1, rfl⟩
      rintro ⟨i, out⟩ ⟨hi, ho⟩ Kn hk
      simp only at hi ho hk ⊢
      have hl : out.length = i := by rw [ho, pathL_len]
      rw [r_spec_PathOf_vg_5 s ns ks fr st n out i Kn K]
      by_cases hlt : (i : Int) < n
      · simp only [d_t hlt, cond_true, hl, d_t hk8.1, d_t hk8.2, Bool.and_self, d_t (show (i + 1) * 12 ≤ 140737488355328 by omega)]
        rw [i64_of (show -9223372036854775808 ≤ (i : Int) + 1 by omega) (by omega)]
        exact hk (i + 1, out ++ [placeV ks (IntKind.i64.wrap (fr + IntKind.i64.wrap (st * i)))]) ⟨by simp only; omega, by rw [ho]; exact pathL_snoc ks fr st i⟩ (by simp only; omega)
      · have : n.toNat = i := by omega
        simp only [d_f hlt, cond_false]
        rw [this, ← ho] at h
        exact h
noncomputable def s_spec_PathOf_vg_vv : Sm := semG [.agg tT, .cell tI, .cell tI, .cell tI] (fun x => match x with | ((s, ns, ks), fr, st, n, _) => true) fun x => tup (vecRs [.cell (.own tV), .cell (.imm .bool)] (match x with | ((s, ns, ks), fr, st, n, _) => (pathR (s, ns, ks) fr st n, pathOk (s, ns, ks) fr st n, ())))
theorem ok_spec_PathOf_vg_vv : FnOk Try.prog 22 s_spec_PathOf_vg_vv := fnOk_of_give ok_spec_PathOf_vg.1

/-! impl.PathOf -/
noncomputable def a_impl_PathOf_vg : Nat → Option Ann := fun n => bif Nat.beq n 5 then some ⟨[1,2,4,10,44,45],2,false⟩ else none
noncomputable def c_impl_PathOf_vg : Ctx := mkC Try.prog tyT [(46, s_impl_Thing_ok), (64, s_impl_in), (63, s_impl_timeOk), (65, s_impl_placeAt)] [] [] 60 a_impl_PathOf_vg 0
noncomputable def gp_impl_PathOf_vg : List (List (Option Ty)) := List.map giveR [.cell (.own tV), .cell (.imm .bool)]
noncomputable def fr_impl_PathOf_vg_5 (s : Str) (ns : ShapeD) (ks : List KeyD) (fr st n : Int) (out : List V3) (i : Int) : Fr := [(1, .int .i64 fr), (2, .int .i64 st), (4, .ptr 0 0), (10, .obj 1 0), (44, .int .i64 n), (45, .int .i64 i)]
noncomputable def hp_impl_PathOf_vg_5 (s : Str) (ns : ShapeD) (ks : List KeyD) (fr st n : Int) (out : List V3) (i : Int) : Heap := [.box [.str s, .vec tN ns, .vec tK ks], .sl 0 tV out]
theorem r_impl_PathOf_vg_5 (s : Str) (ns : ShapeD) (ks : List KeyD) (fr st n : Int) (out : List V3) (i : Int) (Kn : Fr → Heap → Prop) (K : V → Heap → Prop) : round c_impl_PathOf_vg ⟨[1,2,4,10,44,45],2,false⟩ (lb c_impl_PathOf_vg 5 Try.f24) (fr_impl_PathOf_vg_5 s ns ks fr st n out i) (hp_impl_PathOf_vg_5 s ns ks fr st n out i) Kn (lkG gp_impl_PathOf_vg c_impl_PathOf_vg 5 Try.f24 [] K) =
  cond (decide (i < n))
    (cond (decide (1 ≤ List.length ks) && decide (List.length ks ≤ 8))
      (cond (decide ((List.length out + 1) * 12 ≤ 140737488355328))
        (Kn [(1, (.int .i64 (fr))), (2, (.int .i64 (st))), (4, (.ptr 0 0)), (10, (.obj 1 0)), (44, (.int .i64 (n))), (45, (.int .i64 (IntKind.wrap IntKind.i64 (i + 1))))] [(.box [(.str (s)), (.vec (.pair (.int .i64) (.pair (.int .i64) (.pair (.int .i64) (.slice (.float .f32))))) (ns)), (.vec (.pair (.int .i64) (.pair (.float .f32) (.pair (.float .f32) (.float .f32)))) (ks))]), (.sl 0 (.pair (.float .f32) (.pair (.float .f32) (.float .f32))) (out ++ [placeV ks (IntKind.wrap IntKind.i64 (fr + IntKind.wrap IntKind.i64 (st * i)))]))])
        (False))
      (False))
    (K (.tuple [(.obj 0 0), (.bool true)]) [(.sl 0 (.pair (.float .f32) (.pair (.float .f32) (.float .f32))) (out))]) := by kernel_rfl
theorem w_impl_PathOf_vg (s : Str) (ns : ShapeD) (ks : List KeyD) (fr st n : Int) (K : V → Heap → Prop) : wpFnG gp_impl_PathOf_vg c_impl_PathOf_vg Try.f24 (encAs [.agg tT, .cell tI, .cell tI, .cell tI] ((s, ns, ks), fr, st, n, ())) [] K =
  cond (!thingB (s, ns, ks))
    (K (.tuple [(.obj 0 0), (.bool false)]) [(.sl 0 (.pair (.float .f32) (.pair (.float .f32) (.float .f32))) ([]))])
    (cond (!inR fr 0 10000)
      (K (.tuple [(.obj 0 0), (.bool false)]) [(.sl 0 (.pair (.float .f32) (.pair (.float .f32) (.float .f32))) ([]))])
      (cond (!inR st 0 10000)
        (K (.tuple [(.obj 0 0), (.bool false)]) [(.sl 0 (.pair (.float .f32) (.pair (.float .f32) (.float .f32))) ([]))])
        (cond (!inR n 0 256)
          (K (.tuple [(.obj 0 0), (.bool false)]) [(.sl 0 (.pair (.float .f32) (.pair (.float .f32) (.float .f32))) ([]))])
          (cond (decide (n > 0))
            (cond (!inR (IntKind.wrap IntKind.i64 (fr + IntKind.wrap IntKind.i64 (st * IntKind.wrap IntKind.i64 (n - 1)))) 0 10000)
              (K (.tuple [(.obj 0 0), (.bool false)]) [(.sl 0 (.pair (.float .f32) (.pair (.float .f32) (.float .f32))) ([]))])
              (LoopE c_impl_PathOf_vg ⟨[1, 2, 4, 10, 44, 45], 2, false⟩ (lb c_impl_PathOf_vg 5 Try.f24) [(1, (.int .i64 (fr))), (2, (.int .i64 (st))), (4, (.ptr 0 0)), (10, (.obj 1 0)), (44, (.int .i64 (n))), (45, (.int .i64 0))] [(.box [(.str (s)), (.vec (.pair (.int .i64) (.pair (.int .i64) (.pair (.int .i64) (.slice (.float .f32))))) (ns)), (.vec (.pair (.int .i64) (.pair (.float .f32) (.pair (.float .f32) (.float .f32)))) (ks))]), (.sl 0 (.pair (.float .f32) (.pair (.float .f32) (.float .f32))) ([]))] (lkG gp_impl_PathOf_vg c_impl_PathOf_vg 5 Try.f24 [] K)))
            (LoopE c_impl_PathOf_vg ⟨[1, 2, 4, 10, 44, 45], 2, false⟩ (lb c_impl_PathOf_vg 5 Try.f24) [(1, (.int .i64 (fr))), (2, (.int .i64 (st))), (4, (.ptr 0 0)), (10, (.obj 1 0)), (44, (.int .i64 (n))), (45, (.int .i64 0))] [(.box [(.str (s)), (.vec (.pair (.int .i64) (.pair (.int .i64) (.pair (.int .i64) (.slice (.float .f32))))) (ns)), (.vec (.pair (.int .i64) (.pair (.float .f32) (.pair (.float .f32) (.float .f32)))) (ks))]), (.sl 0 (.pair (.float .f32) (.pair (.float .f32) (.float .f32))) ([]))] (lkG gp_impl_PathOf_vg c_impl_PathOf_vg 5 Try.f24 [] K)))))) := by kernel_rfl
noncomputable def s_impl_PathOf_vg : Sm := semV [.agg tT, .cell tI, .cell tI, .cell tI] [.cell (.own tV), .cell (.imm .bool)] (fun x => match x with | ((s, ns, ks), fr, st, n, _) => true) fun x => match x with | ((s, ns, ks), fr, st, n, _) => (pathR (s, ns, ks) fr st n, pathOk (s, ns, ks) fr st n, ())
theorem ok_impl_PathOf_vg : FnOkL Try.prog 24 s_impl_PathOf_vg := fnOkO_give (fnOkO_runG (C := c_impl_PathOf_vg) gp_impl_PathOf_vg rfl mixed (.cons ok_impl_Thing_ok (.cons ok_impl_in (.cons ok_impl_timeOk (.cons ok_impl_placeAt .nil)))) .nil .nil Try.func24 (by kernel_rfl)) rfl fun (x : (((Str) × (ShapeD) × (List KeyD)) × (Int) × (Int) × (Int) × Unit)) wf hg K h => by
  obtain ⟨⟨s, ns, ks⟩, fr, st, n, ⟨⟩⟩ := x
  replace h : K (tup (valRs [.cell (.own tV), .cell (.imm .bool)] ((pathR (s, ns, ks) fr st n, pathOk (s, ns, ks) fr st n, ())) 0)) (thRs [.cell (.own tV), .cell (.imm .bool)] ((pathR (s, ns, ks) fr st n, pathOk (s, ns, ks) fr st n, ()))) := h
  rw [w_impl_PathOf_vg s ns ks fr st n K]
  unfold pathR pathOk at h
  cases h1 : thingB (s, ns, ks) with
  | false => simp only [h1, Bool.false_and, cond_false, Bool.not_false, cond_true] at h ⊢; exact h
  | true =>
  simp only [h1, Bool.true_and, Bool.not_true, cond_false] at h ⊢
  cases h3 : inR fr 0 10000 with
  | false => simp only [h3, Bool.false_and, cond_false, Bool.not_false, cond_true] at h ⊢; exact h
  | true =>
  simp only [h3, Bool.true_and, Bool.not_true, cond_false] at h ⊢
  cases h4 : inR st 0 10000 with
  | false => simp only [h4, Bool.false_and, cond_false, Bool.not_false, cond_true] at h ⊢; exact h
  | true =>
  simp only [h4, Bool.true_and, Bool.not_true, cond_false] at h ⊢
  cases h2 : inR n 0 256 with
  | false => simp only [h2, Bool.false_and, cond_false, Bool.not_false, cond_true] at h ⊢; exact h
  | true =>
  simp only [h2, Bool.true_and, Bool.not_true, cond_false] at h ⊢
  have hn0 := inR_iff.1 h2
  rw [i64_of (show -9223372036854775808 ≤ n - 1 by omega) (by omega)]
  have fin : (decide (n ≤ 0) || inR (IntKind.i64.wrap (fr + IntKind.i64.wrap (st * (n - 1)))) 0 10000) = true → LoopE c_impl_PathOf_vg ⟨[1, 2, 4, 10, 44, 45], 2, false⟩ (lb c_impl_PathOf_vg 5 Try.f24) (fr_impl_PathOf_vg_5 s ns ks fr st n [] 0) (hp_impl_PathOf_vg_5 s ns ks fr st n [] 0) (lkG gp_impl_PathOf_vg c_impl_PathOf_vg 5 Try.f24 [] K) := by
      intro h5
      simp only [h5, cond_true] at h
      have hk8 := thingB_keys' h1
      simp only at hk8
      have hn := inR_iff.1 h2
      refine loop_run (σ := Nat × List V3) (fun q => fr_impl_PathOf_vg_5 s ns ks fr st n q.2 q.1) (fun q => hp_impl_PathOf_vg_5 s ns ks fr st n q.2 q.1) (fun q => (q.1 : Int) ≤ n ∧ q.2 = pathL ks fr st q.1) (fun q => n.toNat - q.1) ?_ (0, []) ⟨hn.1, rfl⟩
      rintro ⟨i, out⟩ ⟨hi, ho⟩ Kn hk
      simp only at hi ho hk ⊢
      have hl : out.length = i := by rw [ho, pathL_len]
      rw [r_impl_PathOf_vg_5 s ns ks fr st n out i Kn K]
      by_cases hlt : (i : Int) < n
      · simp only [d_t hlt, cond_true, hl, d_t hk8.1, d_t hk8.2, Bool.and_self, d_t (show (i + 1) * 12 ≤ 140737488355328 by omega)]
        rw [i64_of (show -9223372036854775808 ≤ (i : Int) + 1 by omega) (by omega)]
        exact hk (i + 1, out ++ [placeV ks (IntKind.i64.wrap (fr + IntKind.i64.wrap (st * i)))]) ⟨by simp only; omega, by rw [ho]; exact pathL_snoc ks fr st i⟩ (by simp only; omega)
      · have : n.toNat = i := by omega
        simp only [d_f hlt, cond_false]
        rw [this, ← ho] at h
        exact h
  by_cases h0 : n > 0
  · rw [d_t h0, cond_true]
    have h0' : decide (n ≤ 0) = false := d_f (by omega)
    cases h5 : inR (IntKind.i64.wrap (fr + IntKind.i64.wrap (st * (n - 1)))) 0 10000 with
    | false =>
      simp only [h0', h5, Bool.false_or, cond_false, Bool.not_false, cond_true] at h ⊢
      exact h
    | true =>
      simp only [Bool.not_true, cond_false]
      exact fin (by rw [h5, Bool.or_true])
  · rw [d_f h0, cond_false]
    exact fin (by rw [d_t (show n ≤ 0 by omega), Bool.true_or])
noncomputable def s_impl_PathOf_vg_vv : Sm := semG [.agg tT, .cell tI, .cell tI, .cell tI] (fun x => match x with | ((s, ns, ks), fr, st, n, _) => true) fun x => tup (vecRs [.cell (.own tV), .cell (.imm .bool)] (match x with | ((s, ns, ks), fr, st, n, _) => (pathR (s, ns, ks) fr st n, pathOk (s, ns, ks) fr st n, ())))
theorem ok_impl_PathOf_vg_vv : FnOk Try.prog 24 s_impl_PathOf_vg_vv := fnOk_of_give ok_impl_PathOf_vg.1

end Go.Proofs.Ytbalmdjicdeeiaa
