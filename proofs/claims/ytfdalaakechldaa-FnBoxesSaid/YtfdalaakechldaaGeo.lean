/- Vectors: sums, products, lengths; small numbers that are exact. -/
import Derived.Test.YtfdalaakechldaaNum
import Derived.Test.YtfdalaakechldaaFlI
set_option linter.unusedVariables false
set_option linter.unusedSimpArgs false
set_option maxRecDepth 100000
namespace Go.Proofs.Ytfdalaakechldaa
open Go.Ev Go.Ev.Fl

--B addV Nat × Nat × Nat → Nat × Nat × Nat → Nat × Nat × Nat
def addV (a b : V3) : V3 := (fadd .f32 a.1 b.1, fadd .f32 a.2.1 b.2.1, fadd .f32 a.2.2 b.2.2)
--B subV Nat × Nat × Nat → Nat × Nat × Nat → Nat × Nat × Nat
def subV (a b : V3) : V3 := (fsub .f32 a.1 b.1, fsub .f32 a.2.1 b.2.1, fsub .f32 a.2.2 b.2.2)
--B scaleV Nat × Nat × Nat → Nat → Nat × Nat × Nat
def scaleV (a : V3) (n : Nat) : V3 := (fmul .f32 a.1 n, fmul .f32 a.2.1 n, fmul .f32 a.2.2 n)
--B innerV Nat × Nat × Nat → Nat × Nat × Nat → Nat
def innerV (a b : V3) : Nat := fadd .f32 (fadd .f32 (fmul .f32 a.1 b.1) (fmul .f32 a.2.1 b.2.1)) (fmul .f32 a.2.2 b.2.2)
--B rootV Nat → Nat
def rootV (x : Nat) : Nat := rootN x
--B longV Nat × Nat × Nat → Nat
def longV (a : V3) : Nat := rootV (innerV a a)
theorem wd_add (x y : Nat) : Wd (fadd .f32 x y) := wd_orNan fun r h => ⟨width_eq .f32 ▸ Ieee.Format.add_lt _ h, nan_add h⟩
theorem wd_sub (x y : Nat) : Wd (fsub .f32 x y) := wd_orNan fun r h => ⟨width_eq .f32 ▸ Ieee.Format.sub_lt _ h, nan_sub h⟩
theorem wd_inner (a b : V3) : Wd (innerV a b) := wd_add _ _

/-! impl.AddVectors -/
noncomputable def c_impl_AddVectors : Ctx := mkC Try.prog tyT [] [] [] 21 (fun _ => none) 0
theorem w_impl_AddVectors (a b : V3) (K : V → Heap → Prop) : wpFn c_impl_AddVectors Try.f30 (encAs [.agg tV, .agg tV] (a, b, ())) [] K =
  K (.agg [(.float .f32 (fadd FloatKind.f32 (Prod.fst a) (Prod.fst b))), (.float .f32 (fadd FloatKind.f32 (Prod.fst (Prod.snd a)) (Prod.fst (Prod.snd b)))), (.float .f32 (fadd FloatKind.f32 (Prod.snd (Prod.snd a)) (Prod.snd (Prod.snd b))))]) [] := by kernel_rfl
noncomputable def s_impl_AddVectors : Sm := semT [.agg tV, .agg tV] fun x => match x with | (a, b, _) => .agg (enc tV (addV a b))
theorem ok_impl_AddVectors : FnOk Try.prog 30 s_impl_AddVectors := fnOk_typed (fnOk_runC (C := c_impl_AddVectors) rfl mixed .nil .nil .nil Try.func30 (by kernel_rfl)) fun (x : ((V3) × (V3) × Unit)) wf K h => by
  obtain ⟨a, b, ⟨⟩⟩ := x
  replace h : K (.agg (enc tV (addV a b))) [] := h
  rw [w_impl_AddVectors a b K]
  exact h

/-! impl.LessVectors -/
noncomputable def c_impl_LessVectors : Ctx := mkC Try.prog tyT [] [] [] 21 (fun _ => none) 0
theorem w_impl_LessVectors (a b : V3) (K : V → Heap → Prop) : wpFn c_impl_LessVectors Try.f29 (encAs [.agg tV, .agg tV] (a, b, ())) [] K =
  K (.agg [(.float .f32 (fsub FloatKind.f32 (Prod.fst a) (Prod.fst b))), (.float .f32 (fsub FloatKind.f32 (Prod.fst (Prod.snd a)) (Prod.fst (Prod.snd b)))), (.float .f32 (fsub FloatKind.f32 (Prod.snd (Prod.snd a)) (Prod.snd (Prod.snd b))))]) [] := by kernel_rfl
noncomputable def s_impl_LessVectors : Sm := semT [.agg tV, .agg tV] fun x => match x with | (a, b, _) => .agg (enc tV (subV a b))
theorem ok_impl_LessVectors : FnOk Try.prog 29 s_impl_LessVectors := fnOk_typed (fnOk_runC (C := c_impl_LessVectors) rfl mixed .nil .nil .nil Try.func29 (by kernel_rfl)) fun (x : ((V3) × (V3) × Unit)) wf K h => by
  obtain ⟨a, b, ⟨⟩⟩ := x
  replace h : K (.agg (enc tV (subV a b))) [] := h
  rw [w_impl_LessVectors a b K]
  exact h


/-! impl.InnerOf -/
noncomputable def c_impl_InnerOf : Ctx := mkC Try.prog tyT [] [] [] 22 (fun _ => none) 0
theorem w_impl_InnerOf (a b : V3) (K : V → Heap → Prop) : wpFn c_impl_InnerOf Try.f32 (encAs [.agg tV, .agg tV] (a, b, ())) [] K =
  K (.float .f32 (fadd FloatKind.f32 (fadd FloatKind.f32 (fmul FloatKind.f32 (Prod.fst a) (Prod.fst b)) (fmul FloatKind.f32 (Prod.fst (Prod.snd a)) (Prod.fst (Prod.snd b)))) (fmul FloatKind.f32 (Prod.snd (Prod.snd a)) (Prod.snd (Prod.snd b))))) [] := by kernel_rfl
noncomputable def s_impl_InnerOf : Sm := semT [.agg tV, .agg tV] fun x => match x with | (a, b, _) => .float .f32 (innerV a b)
theorem ok_impl_InnerOf : FnOk Try.prog 32 s_impl_InnerOf := fnOk_typed (fnOk_runC (C := c_impl_InnerOf) rfl mixed .nil .nil .nil Try.func32 (by kernel_rfl)) fun (x : ((V3) × (V3) × Unit)) wf K h => by
  obtain ⟨a, b, ⟨⟩⟩ := x
  replace h : K (.float .f32 (innerV a b)) [] := h
  rw [w_impl_InnerOf a b K]
  exact h

/-! math.Sqrt -/
noncomputable def c_math_Sqrt : Ctx := mkC Try.prog tyT [(39, s_math_sqrt)] [] [] 5 (fun _ => none) 0
theorem w_math_Sqrt (x : Nat) (K : V → Heap → Prop) : wpFn c_math_Sqrt Try.f35 (encAs [.cell (.float .f64)] (x, ())) [] K =
  K (.float .f64 (fsqrt FloatKind.f64 x)) [] := by kernel_rfl
noncomputable def s_math_Sqrt : Sm := semT [.cell (.float .f64)] fun x => match x with | (x, _) => .float .f64 (fsqrt .f64 x)
theorem ok_math_Sqrt : FnOk Try.prog 35 s_math_Sqrt := fnOk_typed (fnOk_runC (C := c_math_Sqrt) rfl mixed (.cons ok_math_sqrt .nil) .nil .nil Try.func35 (by kernel_rfl)) fun (x : ((Nat) × Unit)) wf K h => by
  obtain ⟨x, ⟨⟩⟩ := x
  replace h : K (.float .f64 (fsqrt .f64 x)) [] := h
  rw [w_math_Sqrt x K]
  exact h

/-! impl.RootNumber -/
noncomputable def c_impl_RootNumber : Ctx := mkC Try.prog tyT [(35, s_math_Sqrt)] [] [] 7 (fun _ => none) 0
theorem w_impl_RootNumber (x : Nat) (K : V → Heap → Prop) : wpFn c_impl_RootNumber Try.f31 (encAs [.cell tF] (x, ())) [] K =
  cond (ovf (fsqrt FloatKind.f64 (widen x)))
    (K .undef [])
    (K (.float .f32 (narrow (fsqrt FloatKind.f64 (widen x)))) []) := by kernel_rfl
noncomputable def s_impl_RootNumber : Sm := semT [.cell tF] fun x => match x with | (x, _) => .float .f32 (rootV x)
theorem ok_impl_RootNumber : FnOk Try.prog 31 s_impl_RootNumber := fnOk_typed (fnOk_runC (C := c_impl_RootNumber) rfl mixed (.cons ok_math_Sqrt .nil) .nil .nil Try.func31 (by kernel_rfl)) fun (x : ((Nat) × Unit)) wf K h => by
  obtain ⟨x, ⟨⟩⟩ := x
  replace h : K (.float .f32 (rootV x)) [] := h
  rw [w_impl_RootNumber x K]
  rw [root_ovf wf.1.1 wf.1.2]
  exact h

/-! impl.LongOf -/
noncomputable def c_impl_LongOf : Ctx := mkC Try.prog tyT [(32, s_impl_InnerOf), (31, s_impl_RootNumber)] [] [] 7 (fun _ => none) 0
theorem w_impl_LongOf (a : V3) (K : V → Heap → Prop) : wpFn c_impl_LongOf Try.f15 (encAs [.agg tV] (a, ())) [] K =
  K (.float .f32 (rootV (innerV a a))) [] := by kernel_rfl
noncomputable def s_impl_LongOf : Sm := semT [.agg tV] fun x => match x with | (a, _) => .float .f32 (longV a)
theorem ok_impl_LongOf : FnOk Try.prog 15 s_impl_LongOf := fnOk_typed (fnOk_runC (C := c_impl_LongOf) rfl mixed (.cons ok_impl_InnerOf (.cons ok_impl_RootNumber .nil)) .nil .nil Try.func15 (by kernel_rfl)) fun (x : ((V3) × Unit)) wf K h => by
  obtain ⟨a, ⟨⟩⟩ := x
  replace h : K (.float .f32 (longV a)) [] := h
  rw [w_impl_LongOf a K]
  exact h

--B bounceV Nat × Nat × Nat → Nat × Nat × Nat → Nat → Nat × Nat × Nat
def bounceV (v n : V3) (k : Nat) : V3 := bif flt .f32 (innerV v n) 0 then subV v (scaleV n (fmul .f32 (innerV v n) (fadd .f32 1065353216 k))) else v


/-! laws.r8Long -/
noncomputable def c_laws_r8Long : Ctx := mkC Try.prog tyT [] [] [] 13 (fun _ => none) 0
theorem w_laws_r8Long (xs ys : List Int) (K : V → Heap → Prop) : wpFn c_laws_r8Long Try.f4 (encAs [.cell tB, .cell tB] (xs, ys, ())) [] K =
  cond (decide ((↑(List.length xs) : Int) > 48))
    (K (.bool true) [])
    (K (.bool (decide ((↑(List.length ys) : Int) > 48))) []) := by kernel_rfl
noncomputable def s_laws_r8Long : Sm := semT [.cell tB, .cell tB] fun x => match x with | (xs, ys, _) => .bool (decide (48 < xs.length) || decide (48 < ys.length))
theorem ok_laws_r8Long : FnOk Try.prog 4 s_laws_r8Long := fnOk_typed (fnOk_runC (C := c_laws_r8Long) rfl mixed .nil .nil .nil Try.func4 (by kernel_rfl)) fun (x : ((List Int) × (List Int) × Unit)) wf K h => by
  obtain ⟨xs, ys, ⟨⟩⟩ := x
  replace h : K (.bool (decide (48 < xs.length) || decide (48 < ys.length))) [] := h
  rw [w_laws_r8Long xs ys K]
  have e : ∀ n : Nat, decide ((n : Int) > 48) = decide (48 < n) := fun n => decide_eq_decide.2 (by omega)
  rw [e, e]
  cases h1 : decide (48 < xs.length) <;> rw [h1] at h <;> exact h

--B atV List Int → Int → Int → Int
def atV (xs : List Int) (k n : Int) : Int := bif decide (n ≤ 1) || decide ((xs.length : Int) ≤ k) then 0 else ((xs[k.toNat]?).getD 0).tmod n

--B smallV SrcD → Nat
def smallV (s : SrcD) : Nat := fdiv .f32 (FloatKind.f32.nearest (pickV s 33 - 16)) 1082130432
--B smallS SrcD → SrcD
def smallS (s : SrcD) : SrcD := pickS s 33
/-! spec.l01DrawSmall -/
noncomputable def c_spec_l01DrawSmall : Ctx := mkC Try.prog tyT [] [] [(18, s_spec_l00Src_pick)] 8 (fun _ => none) 1
theorem w_spec_l01DrawSmall (s : SrcD) (K : V → Heap → Prop) : wpFnO c_spec_l01DrawSmall Try.f22 (.ptr 0 0 :: encAs [] ()) [.box (enc tSrc s)] K =
  cond (srcIn 6 s)
    (K (.float .f32 (fdiv FloatKind.f32 (FloatKind.nearest FloatKind.f32 (IntKind.wrap IntKind.i64 (pickV s 33 - 16))) 1082130432)) [(.box [(.vec (.int .u8) (Prod.fst (pickS s 33))), (.int .i64 (Prod.fst (Prod.snd (pickS s 33)))), (.int .u64 (Prod.snd (Prod.snd (pickS s 33))))])])
    (False) := by kernel_rfl
noncomputable def s_spec_l01DrawSmall : Sm := semP tSrc [] (fun s x => match x with | _ => srcIn 5 s) fun s x => match x with | _ => (.float .f32 (smallV s), smallS s)
theorem ok_spec_l01DrawSmall : FnOkL Try.prog 22 s_spec_l01DrawSmall := fnOkO_box (fnOkO_runC (C := c_spec_l01DrawSmall) rfl mixed .nil .nil (.cons ok_spec_l00Src_pick .nil) Try.func22 (by kernel_rfl)) fun (s : SrcD) (x : Unit) ws wf hg K h => by
  obtain ⟨⟩ := x
  replace hg : (srcIn 5 s) = true := hg
  replace h : K (.float .f32 (smallV s)) [.box (enc tSrc (smallS s))] := h
  rw [w_spec_l01DrawSmall s  K]
  have hb : bytes s.1 := bytes_of ws.1
  have r := pickV_range (s := s) hb (n := 33) (by omega)
  rw [srcIn_mono (M := 6) hg (by omega), i64_of (n := pickV s 33 - 16) (by omega) (by omega)]
  exact h

--B pointV List Int → Nat × Nat × Nat
def pointV (xs : List Int) : V3 := (smallV (xs, 0, 0), smallV (smallS (xs, 0, 0)), smallV (smallS (smallS (xs, 0, 0))))
/-! spec.R8Point -/
noncomputable def c_spec_R8Point : Ctx := mkC Try.prog tyT [] [] [(16, s_spec_l00From), (22, s_spec_l01DrawSmall)] 17 (fun _ => none) 0
theorem w_spec_R8Point (xs : List Int) (K : V → Heap → Prop) : wpFn c_spec_R8Point Try.f9 (encAs [.cell tB] (xs, ())) [] K =
  cond (srcIn 5 (smallS (xs, 0, 0)))
    (cond (srcIn 5 (smallS (smallS (xs, 0, 0))))
      (K (.agg [(.float .f32 (smallV (xs, 0, 0))), (.float .f32 (smallV (smallS (xs, 0, 0)))), (.float .f32 (smallV (smallS (smallS (xs, 0, 0)))))]) [])
      (False))
    (False) := by kernel_rfl
noncomputable def s_spec_R8Point : Sm := semT [.cell tB] fun x => match x with | (xs, _) => .agg (enc tV (pointV xs))
theorem ok_spec_R8Point : FnOk Try.prog 9 s_spec_R8Point := fnOk_typed (fnOk_runC (C := c_spec_R8Point) rfl mixed .nil .nil (.cons ok_spec_l00From (.cons ok_spec_l01DrawSmall .nil)) Try.func9 (by kernel_rfl)) fun (x : ((List Int) × Unit)) wf K h => by
  obtain ⟨xs, ⟨⟩⟩ := x
  replace h : K (.agg (enc tV (pointV xs))) [] := h
  rw [w_spec_R8Point xs K]
  have g0 : srcIn 1 (xs, 0, 0) = true := srcIn_iff.2 ⟨Int.le_refl _, by show (0 : Int) ≤ _; decide⟩
  have g1 : srcIn 2 (smallS (xs, 0, 0)) = true := srcIn_pick 33 g0
  have g2 : srcIn 3 (smallS (smallS (xs, 0, 0))) = true := srcIn_pick 33 g1
  rw [srcIn_mono (M := 5) g1 (by omega), srcIn_mono (M := 5) g2 (by omega)]
  exact h

/-! exact vectors -/
structure QV (s b : Nat) (v : V3) (x y z : Rat) : Prop where
  x : Q s b v.1 x
  y : Q s b v.2.1 y
  z : Q s b v.2.2 z
theorem QV.inner {s t b c : Nat} {v n : V3} {x y z p q r : Rat} (h : QV s b v x y z) (h' : QV t c n p q r) (hb : b * c + b * c + b * c ≤ 16777216) (hs : s + t ≤ 149) : Q (s + t) (b * c + b * c + b * c) (innerV v n) (x * p + y * q + z * r) :=
  (((h.x.mul h'.x (by omega) hs).add (h.y.mul h'.y (by omega) hs) (by omega) hs).add (h.z.mul h'.z (by omega) hs) hb hs)
theorem QV.scale {s t b c k : Nat} {v : V3} {x y z q : Rat} (h : QV s b v x y z) (h' : Q t c k q) (hb : b * c ≤ 16777216) (hs : s + t ≤ 149) : QV (s + t) (b * c) (scaleV v k) (x * q) (y * q) (z * q) :=
  ⟨h.x.mul h' hb hs, h.y.mul h' hb hs, h.z.mul h' hb hs⟩
theorem QV.sub {s b c : Nat} {v n : V3} {x y z p q r : Rat} (h : QV s b v x y z) (h' : QV s c n p q r) (hb : b + c ≤ 16777216) (hs : s ≤ 149) : QV s (b + c) (subV v n) (x - p) (y - q) (z - r) :=
  ⟨h.x.sub h'.x hb hs, h.y.sub h'.y hb hs, h.z.sub h'.z hb hs⟩
theorem QV.add {s b c : Nat} {v n : V3} {x y z p q r : Rat} (h : QV s b v x y z) (h' : QV s c n p q r) (hb : b + c ≤ 16777216) (hs : s ≤ 149) : QV s (b + c) (addV v n) (x + p) (y + q) (z + r) :=
  ⟨h.x.add h'.x hb hs, h.y.add h'.y hb hs, h.z.add h'.z hb hs⟩
theorem q_small {s : SrcD} (hb : bytes s.1) : ∃ x, Q 2 16 (smallV s) x := by
  have r := pickV_range (s := s) hb (n := 33) (by omega)
  refine ⟨_, q_div 2 1082130432 (n := pickV s 33 - 16) (b := 16) (by omega) (by omega) (by omega) ?_⟩
  exact q_four.x.cast rfl
theorem q_point {xs : List Int} (hb : bytes xs) : ∃ x y z, QV 2 16 (pointV xs) x y z := by
  obtain ⟨x, hx⟩ := q_small (s := (xs, 0, 0)) hb
  have b1 : bytes (smallS (xs, 0, 0)).1 := by unfold smallS; rw [pickS_1]; exact hb
  obtain ⟨y, hy⟩ := q_small b1
  have b2 : bytes (smallS (smallS (xs, 0, 0))).1 := by
    have : (smallS (smallS (xs, 0, 0))).1 = (smallS (xs, 0, 0)).1 := pickS_1 _ _
    rw [this]; exact b1
  obtain ⟨z, hz⟩ := q_small b2
  exact ⟨x, y, z, hx, hy, hz⟩
theorem sum_sq {x y z : Rat} (h : x * x + y * y + z * z = 0) : x = 0 ∧ y = 0 ∧ z = 0 := by
  have nn : ∀ a : Rat, 0 ≤ a * a := fun a => by
    by_cases c : 0 ≤ a
    · exact Rat.mul_nonneg c c
    · have := Rat.mul_nonneg (show 0 ≤ -a by grind) (show 0 ≤ -a by grind)
      grind
  have z0 : ∀ a : Rat, a * a = 0 → a = 0 := fun a h => (Rat.mul_eq_zero.1 h).elim id id
  have h1 := nn x
  have h2 := nn y
  have h3 := nn z
  exact ⟨z0 _ (by grind), z0 _ (by grind), z0 _ (by grind)⟩
/-- Sliding and bouncing along an axis. -/
theorem slides {v n : V3} {x y z p q r : Rat} (hv : QV 2 16 v x y z) (hn : QV 0 1 n p q r) (hq : q = 0) (h1 : p * p + q * q + r * r = 1) :
    (fge .f32 (innerV v n) 0 = true → bounceV v n 0 = v ∧ bounceV v n 1065353216 = v) ∧
    (fge .f32 (innerV v n) 0 = false → feq .f32 (innerV (bounceV v n 0) n) 0 = true ∧ feq .f32 (innerV (bounceV v n 1065353216) n) (fneg .f32 (innerV v n)) = true ∧
      feq .f32 (longV (bounceV v n 1065353216)) (longV v) = true ∧ feq .f32 (bounceV v n 0).2.1 v.2.1 = true ∧ feq .f32 (bounceV v n 1065353216).2.1 v.2.1 = true) := by
  have D := hv.inner hn (by decide) (by decide)
  have lt := D.x.flt q_zero.x
  have ge := D.x.fge q_zero.x
  constructor
  · intro hg
    rw [ge] at hg
    have hg := of_decide_eq_true hg
    rw [d_f (by grind)] at lt
    unfold bounceV
    rw [lt]
    exact ⟨rfl, rfl⟩
  · intro hg
    rw [ge] at hg
    have hg := of_decide_eq_false hg
    rw [d_t (by grind)] at lt
    unfold bounceV
    rw [lt]
    simp only [cond_true]
    have K0 := (q_one.add q_zero (by decide) (by decide)).as (show (1 : Rat) + 0 = 1 from Rat.add_zero _)
    have K1 := (q_one.add q_one (by decide) (by decide)).as (show (1 : Rat) + 1 = 2 by grind)
    have U := hv.sub (hn.scale (D.mul K0 (by decide) (by decide)) (by decide) (by decide)) (by decide) (by decide)
    have W := hv.sub (hn.scale (D.mul K1 (by decide) (by decide)) (by decide) (by decide)) (by decide) (by decide)
    have S := hv.inner hv (by decide) (by decide)
    have T := W.inner W (by decide) (by decide)
    have hne : x * x + y * y + z * z ≠ 0 := by
      intro c
      obtain ⟨rfl, rfl, rfl⟩ := sum_sq c
      apply hg
      grind
    refine ⟨?_, ?_, ?_, ?_, ?_⟩
    · rw [(U.inner hn (by decide) (by decide)).x.feq q_zero.x, d_t]
      subst hq; grind
    · rw [(W.inner hn (by decide) (by decide)).x.feq D.neg.x, d_t]
      subst hq; grind
    · have e : innerV (subV v (scaleV n (fmul .f32 (innerV v n) (fadd .f32 1065353216 1065353216)))) (subV v (scaleV n (fmul .f32 (innerV v n) (fadd .f32 1065353216 1065353216)))) = innerV v v := by
        refine Ex.inj (T.as (q := x * x + y * y + z * z) ?_).x S.x hne
        subst hq; grind
      unfold longV
      rw [e, feq_self]
      have pos : 0 < x * x + y * y + z * z := by
        have nn : ∀ a : Rat, 0 ≤ a * a := fun a => by
          by_cases c : 0 ≤ a
          · exact Rat.mul_nonneg c c
          · have := Rat.mul_nonneg (show 0 ≤ -a by grind) (show 0 ≤ -a by grind)
            grind
        have := nn x
        have := nn y
        have := nn z
        grind
      obtain ⟨_, _, _, _, _, _, f⟩ := root_fin S.x pos
      unfold rootV
      rw [fin_nan f]; rfl
    · rw [U.y.x.feq hv.y.x, d_t]
      subst hq; grind
    · rw [W.y.x.feq hv.y.x, d_t]
      subst hq; grind


end Go.Proofs.Ytfdalaakechldaa
