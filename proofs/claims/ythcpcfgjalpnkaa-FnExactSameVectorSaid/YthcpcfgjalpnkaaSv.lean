/- The functions that the law FnExactSameVector reaches, each with what it computes. -/
import Derived.Test.YthcpcfgjalpnkaaEvLem
import Derived.Test.YthcpcfgjalpnkaaRows
set_option linter.unusedVariables false
namespace Go.Proofs.Ythcpcfgjalpnkaa
open Go.Ev
def tyT : TypeId → Ty := fun t => bif Nat.beq t 48 then .float .f32 else .unit
noncomputable abbrev cx (kn : List (FuncId × Sm)) (n : Nat) : Ctx := mkCtx Try.prog tyT kn n (fun _ => none)
noncomputable abbrev cxl (kn : List (FuncId × Sm)) (n : Nat) (ann : Nat → Option Ann) : Ctx := mkCtx Try.prog tyT kn n ann
abbrev tF : Ty := .float .f32
abbrev tV : Ty := .pair tF (.pair tF tF)
theorem mixed : Try.prog.follows .mixedOrders = true := by kernel_rfl

/-! impl.isNaN -/
noncomputable def c51 : Ctx := cx [] 6
theorem w51 (x : Nat) (K : V → Heap → Prop) : wpFn c51 Try.f51 (encAs [.cell tF] (x, ())) [] K =
  K (.bool (!feq FloatKind.f32 x x)) [] := by kernel_rfl
noncomputable def s51 : Sm := semT [.cell tF] fun x => match x with | (x, _) => .bool (nan .f32 x)
theorem ok51 : FnOk Try.prog 51 s51 := fnOk_typed (fnOk_run (C := c51) rfl mixed .nil Try.func51 (by kernel_rfl)) fun x wf K h => by
  obtain ⟨x, ⟨⟩⟩ := x
  replace h : K (.bool (nan .f32 x)) [] := h
  rw [w51 x K]
  rw [feq_self, Bool.not_not]
  exact h

abbrev s52 : Sm := sF32bits
theorem ok52 : FnOk Try.prog 52 sF32bits := ok_F32bits Try.func52 (by kernel_rfl) (by kernel_rfl) (by kernel_rfl) (by kernel_rfl)

/-! spec.l01Bits -/
noncomputable def c50 : Ctx := cx [(52, s52)] 9
theorem w50 (x : Nat) (K : V → Heap → Prop) : wpFn c50 Try.f50 (encAs [.cell tF] (x, ())) [] K =
  cond (!feq FloatKind.f32 x x)
    (K (.int (IntKind.i64) 2143289344) [])
    (cond (nan FloatKind.f32 x)
      (False)
      (K (.int (IntKind.i64) (IntKind.wrap IntKind.i64 (↑x : Int))) [])) := by kernel_rfl
noncomputable def s50 : Sm := semT [.cell tF] fun x => match x with | (x, _) => .int .i64 x
theorem ok50 : FnOk Try.prog 50 s50 := fnOk_typed (fnOk_run (C := c50) rfl mixed (.cons ok52 .nil) Try.func50 (by kernel_rfl)) fun x wf K h => by
  obtain ⟨x, ⟨⟩⟩ := x
  replace h : K (.int .i64 x) [] := h
  rw [w50 x K]
  obtain ⟨⟨w1, w2⟩, _⟩ := wf
  rw [feq_self, Bool.not_not]
  cases e : nan .f32 x with
  | true => simp only [cond_true]; replace w2 : canon .f32 x = x := w2; rw [← w2, canon_nan e] at h; exact h
  | false =>
    simp only [cond_false]
    rw [i64_of (by omega) (Int.le_trans (Int.ofNat_le.2 (Nat.le_of_lt w1)) (by decide))]
    exact h

/-! spec.l01Same -/
noncomputable def c47 : Ctx := cx [(50, s50)] 10
theorem w47 (x y : Nat) (K : V → Heap → Prop) : wpFn c47 Try.f47 (encAs [.cell tF, .cell tF] (x, y, ())) [] K =
  K (.bool ((↑x : Int) == (↑y : Int))) [] := by kernel_rfl
noncomputable def s47 : Sm := semT [.cell tF, .cell tF] fun x => match x with | (x, y, _) => .bool (x == y)
theorem ok47 : FnOk Try.prog 47 s47 := fnOk_typed (fnOk_run (C := c47) rfl mixed (.cons ok50 .nil) Try.func47 (by kernel_rfl)) fun x wf K h => by
  obtain ⟨x, y, ⟨⟩⟩ := x
  replace h : K (.bool (x == y)) [] := h
  rw [w47 x y K]
  rw [beq_cast]; exact h

def sameV (x y : tV.den) : Bool := x.1 == y.1 && (x.2.1 == y.2.1 && x.2.2 == y.2.2)
/-! spec.l01VSame -/
noncomputable def c39 : Ctx := cx [(47, s47)] 24
theorem w39 (a b c a' b' c' : Nat) (K : V → Heap → Prop) : wpFn c39 Try.f39 (encAs [.agg tV, .agg tV] ((a, b, c), (a', b', c'), ())) [] K =
  cond (a == a')
    (cond (b == b')
      (K (.bool (c == c')) [])
      (K (.bool false) []))
    (K (.bool false) []) := by kernel_rfl
noncomputable def s39 : Sm := semT [.agg tV, .agg tV] fun x => match x with | ((a, b, c), (a', b', c'), _) => .bool (sameV (a, b, c) (a', b', c'))
theorem ok39 : FnOk Try.prog 39 s39 := fnOk_typed (fnOk_run (C := c39) rfl mixed (.cons ok47 .nil) Try.func39 (by kernel_rfl)) fun x wf K h => by
  obtain ⟨⟨a, b, c⟩, ⟨a', b', c'⟩, ⟨⟩⟩ := x
  replace h : K (.bool (sameV (a, b, c) (a', b', c'))) [] := h
  rw [w39 a b c a' b' c' K]
  revert h
  simp only [sameV]
  cases a == a' <;> cases b == b' <;> exact id

/-! impl.SameNumber -/
noncomputable def c21 : Ctx := cx [(51, s51), (52, s52)] 22
theorem w21 (x y : Nat) (K : V → Heap → Prop) : wpFn c21 Try.f21 (encAs [.cell tF, .cell tF] (x, y, ())) [] K =
  cond (nan FloatKind.f32 x)
    (cond (nan FloatKind.f32 x)
      (K (.bool (nan FloatKind.f32 y)) [])
      (K (.bool false) []))
    (cond (nan FloatKind.f32 y)
      (cond (nan FloatKind.f32 x)
        (K (.bool (nan FloatKind.f32 y)) [])
        (K (.bool false) []))
      (cond (nan FloatKind.f32 x)
        (cond (nan FloatKind.f32 y)
          (False)
          (False))
        (cond (nan FloatKind.f32 y)
          (False)
          (K (.bool ((↑x : Int) == (↑y : Int))) [])))) := by kernel_rfl
noncomputable def s21 : Sm := semT [.cell tF, .cell tF] fun x => match x with | (x, y, _) => .bool (x == y)
theorem ok21 : FnOk Try.prog 21 s21 := fnOk_typed (fnOk_run (C := c21) rfl mixed (.cons ok51 (.cons ok52 .nil)) Try.func21 (by kernel_rfl)) fun x wf K h => by
  obtain ⟨x, y, ⟨⟩⟩ := x
  replace h : K (.bool (x == y)) [] := h
  rw [w21 x y K]
  obtain ⟨⟨_, wx⟩, ⟨_, wy⟩, _⟩ := wf
  rw [beq_cast]
  cases ex : nan .f32 x <;> cases ey : nan .f32 y <;> simp only [cond_true, cond_false]
  · exact h
  · have : (x == y) = false := beq_eq_false_iff_ne.2 fun e => by rw [e, ey] at ex; cases ex
    rw [this] at h; exact h
  · have : (x == y) = false := beq_eq_false_iff_ne.2 fun e => by rw [e, ey] at ex; cases ex
    rw [this] at h; exact h
  · have : x = y := wx.symm.trans ((canon_nan ex).trans ((canon_nan ey).symm.trans wy))
    rw [this, beq_self_eq_true] at h; exact h

noncomputable def a68 : Nat → Option Ann := fun n => bif Nat.beq n 4 then some ⟨[0, 1, 2, 6, 15, 16, 17], 0⟩ else none
/-! slices.EqualFunc[[]float32,[]float32,float32,float32] -/
noncomputable def c68 : Ctx := cxl [(21, s21)] 32 a68
noncomputable def fr68_4 (xs ys : List Nat) (n i : Int) : Fr := [(0, .vec tF xs), (1, .vec tF ys), (2, .fn 21 []), (6, .bool false), (15, .vec tF xs), (16, .int .i64 n), (17, .int .i64 i)]
theorem r68_4 (xs ys : List Nat) (n i : Int) (Kn : Fr → Heap → Prop) (K : V → Heap → Prop) : round c68 ⟨[0, 1, 2, 6, 15, 16, 17], 0⟩ (lb c68 4 Try.f68) (fr68_4 xs ys n i) [] Kn (lk c68 4 Try.f68 [] K) =
  cond (decide (i < n))
    (cond (decide (0 ≤ i))
      ((match xs[Int.toNat i]? with
        | some y0 => cond (decide (0 ≤ i))
          ((match ys[Int.toNat i]? with
            | some y1 => cond (!y0 == y1)
              (K (.bool false) [])
              (Kn [(0, (.vec (Ty.float FloatKind.f32) (xs))), (1, (.vec (Ty.float FloatKind.f32) (ys))), (2, (.fn 21 [])), (6, (.bool false)), (15, (.vec (Ty.float FloatKind.f32) (xs))), (16, (.int (IntKind.i64) (n))), (17, (.int (IntKind.i64) (IntKind.wrap IntKind.i64 (i + 1))))] [])
            | none => False))
          (False)
        | none => False))
      (False))
    (K (.bool true) []) := by kernel_rfl
theorem w68 (xs ys : List Nat) (K : V → Heap → Prop) : wpFn c68 Try.f68 (encAs [.cell (.slice tF), .cell (.slice tF), .fn 21] (xs, ys, (), ())) [] K =
  cond ((↑(List.length xs) : Int) != (↑(List.length ys) : Int))
    (K (.bool false) [])
    (LoopE c68 ⟨[0, 1, 2, 6, 15, 16, 17], 0⟩ (lb c68 4 Try.f68) [(0, (.vec (Ty.float FloatKind.f32) (xs))), (1, (.vec (Ty.float FloatKind.f32) (ys))), (2, (.fn 21 [])), (6, (.bool false)), (15, (.vec (Ty.float FloatKind.f32) (xs))), (16, (.int (IntKind.i64) ((↑(List.length xs) : Int)))), (17, (.int (IntKind.i64) 0))] [] (lk c68 4 Try.f68 [] K)) := by kernel_rfl
noncomputable def s68 : Sm := semT [.cell (.slice tF), .cell (.slice tF), .fn 21] fun x => match x with | (xs, ys, _, _) => .bool (xs == ys)
theorem ok68 : FnOk Try.prog 68 s68 := fnOk_typed (fnOk_run (C := c68) rfl mixed (.cons ok21 .nil) Try.func68 (by kernel_rfl)) fun x wf K h => by
  obtain ⟨xs, ys, ⟨⟩, ⟨⟩⟩ := x
  replace h : K (.bool (xs == ys)) [] := h
  rw [w68 xs ys K]
  obtain ⟨⟨wl, _⟩, _⟩ := wf
  rw [bne_cast]
  by_cases hl : xs.length = ys.length
  · simp only [hl, bne_self_eq_false, cond_false]
    refine loop_run (σ := Nat) (fun i => fr68_4 xs ys ys.length i) (fun _ => []) (fun i => i ≤ ys.length ∧ xs.take i = ys.take i) (fun i => ys.length - i) ?_ 0 ⟨Nat.zero_le _, rfl⟩
    intro i hi Kn hk
    rw [r68_4 xs ys ys.length i Kn K]
    by_cases hlt : i < ys.length
    · have h1 : decide ((i : Int) < (ys.length : Int)) = true := by simp; omega
      have h2 : decide (0 ≤ (i : Int)) = true := by simp
      simp only [h1, h2, cond_true, Int.toNat_natCast]
      have hx : xs[i]? = some (xs[i]'(by omega)) := List.getElem?_eq_getElem _
      have hy : ys[i]? = some (ys[i]'hlt) := List.getElem?_eq_getElem _
      simp only [hx, hy]
      by_cases he : xs[i]'(by omega) = ys[i]'hlt
      · simp only [he, beq_self_eq_true, Bool.not_true, cond_false]
        have hm : ys.length ≤ 9223372036854775807 := by rw [← hl]; exact wl
        rw [i64_of (by omega) (by omega)]
        refine hk (i + 1) ⟨hlt, ?_⟩ (by omega)
        rw [List.take_add_one, List.take_add_one, hi.2, hx, hy, he]
      · have : (xs[i]'(by omega) == ys[i]'hlt) = false := beq_eq_false_iff_ne.2 he
        simp only [this, Bool.not_false, cond_true]
        have hne : (xs == ys) = false := beq_eq_false_iff_ne.2 fun e => he (by simp only [e])
        rw [hne] at h; exact h
    · have h1 : decide ((i : Int) < (ys.length : Int)) = false := by simp; omega
      simp only [h1, cond_false]
      have : xs = ys := by
        have := hi.2
        rwa [List.take_of_length_le (by omega), List.take_of_length_le (by omega)] at this
      rw [this, beq_self_eq_true] at h; exact h
  · have : (xs.length != ys.length) = true := by simp [hl]
    simp only [this, cond_true]
    have hne : (xs == ys) = false := beq_eq_false_iff_ne.2 fun e => hl (by rw [e])
    rw [hne] at h; exact h

/-! impl.sameList -/
noncomputable def c40 : Ctx := cx [(68, s68)] 8
theorem w40 (xs ys : List Nat) (K : V → Heap → Prop) : wpFn c40 Try.f40 (encAs [.cell (.slice tF), .cell (.slice tF)] (xs, ys, ())) [] K =
  K (.bool (xs == ys)) [] := by kernel_rfl
noncomputable def s40 : Sm := semT [.cell (.slice tF), .cell (.slice tF)] fun x => match x with | (xs, ys, _) => .bool (xs == ys)
theorem ok40 : FnOk Try.prog 40 s40 := fnOk_typed (fnOk_run (C := c40) rfl mixed (.cons ok68 .nil) Try.func40 (by kernel_rfl)) fun x wf K h => by
  obtain ⟨xs, ys, ⟨⟩⟩ := x
  replace h : K (.bool (xs == ys)) [] := h
  rw [w40 xs ys K]
  exact h

/-! (impl.Vector).numbers -/
noncomputable def c41 : Ctx := cx [] 10
theorem w41 (a b c : Nat) (K : V → Heap → Prop) : wpFn c41 Try.f41 (encAs [.agg tV] ((a, b, c), ())) [] K =
  K (.vec (Ty.float FloatKind.f32) ([a, b, c])) [] := by kernel_rfl
noncomputable def s41 : Sm := semT [.agg tV] fun x => match x with | ((a, b, c), _) => .vec tF [a, b, c]
theorem ok41 : FnOk Try.prog 41 s41 := fnOk_typed (fnOk_run (C := c41) rfl mixed .nil Try.func41 (by kernel_rfl)) fun x wf K h => by
  obtain ⟨⟨a, b, c⟩, ⟨⟩⟩ := x
  replace h : K (.vec tF [a, b, c]) [] := h
  rw [w41 a b c K]
  exact h

/-! impl.SameVector -/
noncomputable def c11 : Ctx := cx [(40, s40), (41, s41)] 10
theorem w11 (a b c a' b' c' : Nat) (K : V → Heap → Prop) : wpFn c11 Try.f11 (encAs [.agg tV, .agg tV] ((a, b, c), (a', b', c'), ())) [] K =
  K (.bool ([a, b, c] == [a', b', c'])) [] := by kernel_rfl
noncomputable def s11 : Sm := semT [.agg tV, .agg tV] fun x => match x with | ((a, b, c), (a', b', c'), _) => .bool (sameV (a, b, c) (a', b', c'))
theorem ok11 : FnOk Try.prog 11 s11 := fnOk_typed (fnOk_run (C := c11) rfl mixed (.cons ok40 (.cons ok41 .nil)) Try.func11 (by kernel_rfl)) fun x wf K h => by
  obtain ⟨⟨a, b, c⟩, ⟨a', b', c'⟩, ⟨⟩⟩ := x
  replace h : K (.bool (sameV (a, b, c) (a', b', c'))) [] := h
  rw [w11 a b c a' b' c' K]
  replace h : K (.bool (a == a' && (b == b' && c == c'))) [] := h
  have : ([a, b, c] == [a', b', c']) = (a == a' && (b == b' && c == c')) := by
    show (a == a' && (b == b' && (c == c' && true))) = _
    rw [Bool.and_true]
  rw [this]; exact h

/-! laws.toVector -/
noncomputable def c10 : Ctx := cx [] 14
theorem w10 (a b c : Nat) (K : V → Heap → Prop) : wpFn c10 Try.f10 (encAs [.agg tV] ((a, b, c), ())) [] K =
  K (.agg [(.float (FloatKind.f32) (a)), (.float (FloatKind.f32) (b)), (.float (FloatKind.f32) (c))]) [] := by kernel_rfl
noncomputable def s10 : Sm := semT [.agg tV] fun x => match x with | ((a, b, c), _) => .agg [.float .f32 a, .float .f32 b, .float .f32 c]
theorem ok10 : FnOk Try.prog 10 s10 := fnOk_typed (fnOk_run (C := c10) rfl mixed .nil Try.func10 (by kernel_rfl)) fun x wf K h => by
  obtain ⟨⟨a, b, c⟩, ⟨⟩⟩ := x
  replace h : K (.agg [.float .f32 a, .float .f32 b, .float .f32 c]) [] := h
  rw [w10 a b c K]
  exact h

/-! spec.SameVector -/
noncomputable def c9 : Ctx := cx [(39, s39)] 8
theorem w9 (a b c a' b' c' : Nat) (K : V → Heap → Prop) : wpFn c9 Try.f9 (encAs [.agg tV, .agg tV] ((a, b, c), (a', b', c'), ())) [] K =
  K (.bool (sameV (a, b, c) (a', b', c'))) [] := by kernel_rfl
noncomputable def s9 : Sm := semT [.agg tV, .agg tV] fun x => match x with | ((a, b, c), (a', b', c'), _) => .bool (sameV (a, b, c) (a', b', c'))
theorem ok9 : FnOk Try.prog 9 s9 := fnOk_typed (fnOk_run (C := c9) rfl mixed (.cons ok39 .nil) Try.func9 (by kernel_rfl)) fun x wf K h => by
  obtain ⟨⟨a, b, c⟩, ⟨a', b', c'⟩, ⟨⟩⟩ := x
  replace h : K (.bool (sameV (a, b, c) (a', b', c'))) [] := h
  rw [w9 a b c a' b' c' K]
  exact h

/-! laws.FnExactSameVector -/
noncomputable def c3 : Ctx := cx [(9, s9), (10, s10), (11, s11)] 20
theorem w3 (a b c a' b' c' : Nat) (K : V → Heap → Prop) : wpFn c3 Try.f3 (encAs [.agg tV, .agg tV] ((a, b, c), (a', b', c'), ())) [] K =
  cond (sameV (a, b, c) (a', b', c') != sameV (a, b, c) (a', b', c'))
    (K (.bool false) [])
    (K (.bool true) []) := by kernel_rfl
noncomputable def s3 : Sm := semT [.agg tV, .agg tV] fun x => match x with | ((a, b, c), (a', b', c'), _) => .bool true
theorem ok3 : FnOk Try.prog 3 s3 := fnOk_typed (fnOk_run (C := c3) rfl mixed (.cons ok9 (.cons ok10 (.cons ok11 .nil))) Try.func3 (by kernel_rfl)) fun x wf K h => by
  obtain ⟨⟨a, b, c⟩, ⟨a', b', c'⟩, ⟨⟩⟩ := x
  replace h : K (.bool true) [] := h
  rw [w3 a b c a' b' c' K]
  rw [bne_self_eq_false]; exact h

end Go.Proofs.Ythcpcfgjalpnkaa
