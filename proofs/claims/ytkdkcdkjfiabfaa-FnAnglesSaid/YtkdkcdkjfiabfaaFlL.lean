/- Floats near numbers in units of 2^-60: sums, products, quotients and roots with their errors. -/
import Derived.Test.YtkdkcdkjfiabfaaFlH
import Derived.Test.YtkdkcdkjfiabfaaFlI
set_option linter.unusedVariables false
set_option linter.unusedSimpArgs false
namespace Go.Ev
open Ieee
namespace Fl

theorem sub_mulR (a b c : Rat) : (a - b) * c = a * c - b * c := by grind
/-- Rounding moves a number by less than one grid step. -/
theorem rnd_grid {k : FloatKind} {q : Rat} {b : Nat} (h : Rnd k q b) {N : Nat} {u : Rat} (hu : 0 < u) (hrep : ∀ n : Int, n.natAbs ≤ N → Rep k ((n : Rat) * u)) (h1 : -((N : Rat) * u) ≤ q) (h2 : q < (N : Rat) * u) :
    fin k b = true ∧ b < 2 * signOf k ∧ q - u ≤ ev k b ∧ ev k b ≤ q + u := by
  have hne : u ≠ 0 := by grind
  have f1 := Rat.floor_le (q / u)
  have f2 := Rat.lt_floor_add_one (q / u)
  have hq : q / u * u = q := by rw [Rat.div_def, Rat.mul_assoc, Rat.inv_mul_cancel _ hne, Rat.mul_one]
  generalize hk : (q / u).floor = n at *
  have g1 : (n : Rat) * u ≤ q := by
    have := Rat.mul_le_mul_of_nonneg_right f1 (Rat.le_of_lt hu)
    rwa [hq] at this
  have g2 : q < ((n + 1 : Int) : Rat) * u := by
    have := Rat.mul_lt_mul_of_pos_right f2 hu
    rwa [hq] at this
  have b1 : n < (N : Int) := by
    have : (n : Rat) * u < (N : Rat) * u := by grind
    have := Rat.lt_of_mul_lt_mul_right this (Rat.le_of_lt hu)
    have h3 : ((N : Int) : Rat) = (N : Rat) := rfl
    rw [← h3] at this
    exact Rat.intCast_lt_intCast.1 this
  have b2 : -(N : Int) ≤ n := by
    have h3 : ((-(N : Int) : Int) : Rat) = -(N : Rat) := by rw [Rat.intCast_neg]; rfl
    have : ((-(N : Int) : Int) : Rat) * u < ((n + 1 : Int) : Rat) * u := by rw [h3]; grind
    have := Rat.lt_of_mul_lt_mul_right this (Rat.le_of_lt hu)
    have := Rat.intCast_lt_intCast.1 this
    omega
  obtain ⟨w1, p1, p2, p3⟩ := hrep n (by omega)
  obtain ⟨w2, r1, r2, r3⟩ := hrep (n + 1) (by omega)
  have e1 := h.ge (fin_nan p1) p2 (by rw [p3]; exact g1)
  have e2 := h.le (fin_nan r1) r2 (by rw [r3]; exact Rat.le_of_lt g2)
  rw [p3] at e1
  rw [r3] at e2
  have hs : ((n + 1 : Int) : Rat) = (n : Rat) + 1 := by rw [Rat.intCast_add]; rfl
  refine ⟨?_, h.lt2, by grind, by grind⟩
  have hn := h.nan
  rw [fin_iff]
  have hr := nan_false.1 hn
  refine Nat.lt_of_le_of_ne hr fun hc => ?_
  have l1 := mg_lt k.format (fin_iff.1 p1)
  have l2 := mg_lt k.format (fin_iff.1 r1)
  have n1 := mg_nonneg k.format (rung k w1)
  have n2 := mg_nonneg k.format (rung k w2)
  unfold ev at e1 e2 p3 r3
  rw [hc] at e1 e2
  cases hb : sg k b <;> rw [hb] at e1 e2 <;> simp only [sgd, cond_true, cond_false] at e1 e2
  · cases hsw : sg k w2 <;> rw [hsw] at r3 <;> simp only [sgd, cond_true, cond_false] at r3 <;> grind
  · cases hsw : sg k w1 <;> rw [hsw] at p3 <;> simp only [sgd, cond_true, cond_false] at p3 <;> grind

def W : Rat := 1152921504606846976
theorem W_pos : 0 < W := by unfold W; decide
/-- A word whose number is n units but for e at most. -/
structure Ap (k : FloatKind) (x : Nat) (n : Int) (e : Nat) : Prop where
  f : fin k x = true
  l : x < 2 * signOf k
  lo : (n : Rat) - (e : Rat) ≤ ev k x * W
  hi : ev k x * W ≤ (n : Rat) + (e : Rat)
theorem Ap.ex {k : FloatKind} {x : Nat} {n : Int} {e : Nat} (h : Ap k x n e) : Ex k x (ev k x) := ⟨h.f, h.l, rfl⟩
theorem Ap.nan {k : FloatKind} {x : Nat} {n : Int} {e : Nat} (h : Ap k x n e) : Go.Ev.nan k x = false := fin_nan h.f
theorem Ap.le {k : FloatKind} {x : Nat} {n : Int} {e c : Nat} (h : Ap k x n e) (hc : e ≤ c) : Ap k x n c := by
  have : (e : Rat) ≤ (c : Rat) := Rat.natCast_le_natCast.2 hc
  have := h.lo
  have := h.hi
  exact ⟨h.f, h.l, by grind, by grind⟩
theorem Ap.to {k : FloatKind} {x : Nat} {n m : Int} {e c : Nat} (h : Ap k x n e) (hc : (n - m).natAbs + e ≤ c) : Ap k x m c := by
  have h1 : m - (c : Int) ≤ n - (e : Int) := by omega
  have h2 : n + (e : Int) ≤ m + (c : Int) := by omega
  have h1 := Rat.intCast_le_intCast.2 h1
  have h2 := Rat.intCast_le_intCast.2 h2
  rw [Rat.intCast_sub, Rat.intCast_sub] at h1
  rw [Rat.intCast_add, Rat.intCast_add] at h2
  have := h.lo
  have := h.hi
  have t1 : ((e : Int) : Rat) = (e : Rat) := rfl
  have t2 : ((c : Int) : Rat) = (c : Rat) := rfl
  exact ⟨h.f, h.l, by grind, by grind⟩
theorem Ap.exact {k : FloatKind} {x : Nat} {q : Rat} (h : Ex k x q) {n : Int} (e : q * W = n) : Ap k x n 0 :=
  ⟨h.f, h.l, by rw [h.e, e]; have : ((0 : Nat) : Rat) = 0 := rfl; grind, by rw [h.e, e]; have : ((0 : Nat) : Rat) = 0 := rfl; grind⟩
theorem Ap.neg {k : FloatKind} {x : Nat} {n : Int} {e : Nat} (h : Ap k x n e) : Ap k (fneg k x) (-n) e := by
  have hx := h.ex.neg
  refine ⟨hx.f, hx.l, ?_, ?_⟩
  · rw [hx.e, Rat.intCast_neg]; have := h.hi; grind
  · rw [hx.e, Rat.intCast_neg]; have := h.lo; grind

/-- A rounded number, where the exact one is n units but for e. -/
theorem Ap.rnd {k : FloatKind} {q : Rat} {b : Nat} (h : Rnd k q b) {n : Int} {e N r : Nat} (hr : 0 < r) (hrep : ∀ n : Int, n.natAbs ≤ N → Rep k ((n : Rat) * ((r : Rat) / W))) (h1 : (n : Rat) - (e : Rat) ≤ q * W) (h2 : q * W ≤ (n : Rat) + (e : Rat)) (hb : n.natAbs + e < N * r) :
    Ap k b n (e + r) := by
  have w0 := W_pos
  have hW : W ≠ 0 := by grind
  have hr' : (0 : Rat) < (r : Rat) := Rat.natCast_pos.2 hr
  have hd : (r : Rat) / W * W = r := by rw [Rat.div_def, Rat.mul_assoc, Rat.inv_mul_cancel _ hW, Rat.mul_one]
  have hu : 0 < (r : Rat) / W := by
    rw [Rat.div_def]
    exact Rat.mul_pos hr' (Rat.inv_pos.2 w0)
  have hbb : n + (e : Int) < ((N * r : Nat) : Int) ∧ -((N * r : Nat) : Int) ≤ n - (e : Int) := by omega
  have b1 := Rat.intCast_lt_intCast.2 hbb.1
  have b2 := Rat.intCast_le_intCast.2 hbb.2
  rw [Rat.intCast_add] at b1
  rw [Rat.intCast_sub, Rat.intCast_neg] at b2
  have t1 : ((e : Int) : Rat) = (e : Rat) := rfl
  have t2 : (((N * r : Nat) : Int) : Rat) = (N : Rat) * (r : Rat) := by
    have : (((N * r : Nat) : Int) : Rat) = ((N * r : Nat) : Rat) := rfl
    rw [this, Rat.natCast_mul]
  rw [t1, t2] at b1 b2
  have m1 : (N : Rat) * ((r : Rat) / W) * W = (N : Rat) * (r : Rat) := by rw [Rat.mul_assoc, hd]
  have c1 : q < (N : Rat) * ((r : Rat) / W) := Rat.lt_of_mul_lt_mul_right (c := W) (by rw [m1]; grind) (Rat.le_of_lt w0)
  have c2 : -((N : Rat) * ((r : Rat) / W)) ≤ q := by
    refine Rat.not_lt.1 fun hc => ?_
    have := Rat.mul_lt_mul_of_pos_right hc w0
    rw [Rat.neg_mul, m1] at this
    grind
  obtain ⟨g1, g2, g3, g4⟩ := rnd_grid h hu hrep c2 c1
  have g3 := Rat.mul_le_mul_of_nonneg_right g3 (Rat.le_of_lt w0)
  have g4 := Rat.mul_le_mul_of_nonneg_right g4 (Rat.le_of_lt w0)
  rw [sub_mulR, hd] at g3
  rw [Rat.add_mul, hd] at g4
  have t3 : ((e + r : Nat) : Rat) = (e : Rat) + (r : Rat) := Rat.natCast_add ..
  exact ⟨g1, g2, by rw [t3]; grind, by rw [t3]; grind⟩

theorem rep_g {r s : Nat} (h : (r : Rat) * ((2 ^ s : Nat) : Rat) = W) (n : Int) : (n : Rat) * ((r : Rat) / W) * ((2 ^ s : Nat) : Rat) = n := by
  have hW : W ≠ 0 := by have := W_pos; grind
  rw [Rat.div_def, Rat.mul_assoc, Rat.mul_assoc, show W⁻¹ * ((2 ^ s : Nat) : Rat) = ((2 ^ s : Nat) : Rat) * W⁻¹ from Rat.mul_comm _ _, ← Rat.mul_assoc (r : Rat), h, Rat.mul_inv_cancel _ hW, Rat.mul_one]
theorem g64 (n : Int) (h : n.natAbs ≤ 9007199254740992) : Rep .f64 ((n : Rat) * (((1024 : Nat) : Rat) / W)) := rep64 n 50 (rep_g (by unfold W; decide +kernel) n) h (by decide)
theorem g32 (n : Int) (h : n.natAbs ≤ 16777216) : Rep .f32 ((n : Rat) * (((68719476736 : Nat) : Rat) / W)) := rep32 n 24 (rep_g (by unfold W; decide +kernel) n) h (by decide)
theorem g32' (n : Int) (h : n.natAbs ≤ 16777216) : Rep .f32 ((n : Rat) * (((549755813888 : Nat) : Rat) / W)) := rep32 n 21 (rep_g (by unfold W; decide +kernel) n) h (by decide)

theorem Ap.add {x y : Nat} {n m : Int} {a b : Nat} (hx : Ap .f64 x n a) (hy : Ap .f64 y m b) (hb : (n + m).natAbs + (a + b) < 9223372036854775808) : Ap .f64 (fadd .f64 x y) (n + m) (a + b + 1024) := by
  have x1 := hx.lo; have x2 := hx.hi; have y1 := hy.lo; have y2 := hy.hi
  have t : ((a + b : Nat) : Rat) = (a : Rat) + (b : Rat) := Rat.natCast_add ..
  exact Ap.rnd (hx.ex.radd hy.ex) (by decide) g64 (by rw [Rat.intCast_add, t, Rat.add_mul]; grind) (by rw [Rat.intCast_add, t, Rat.add_mul]; grind) (by omega)
theorem Ap.sub {x y : Nat} {n m : Int} {a b : Nat} (hx : Ap .f64 x n a) (hy : Ap .f64 y m b) (hb : (n - m).natAbs + (a + b) < 9223372036854775808) : Ap .f64 (fsub .f64 x y) (n - m) (a + b + 1024) := by
  have x1 := hx.lo; have x2 := hx.hi; have y1 := hy.lo; have y2 := hy.hi
  have t : ((a + b : Nat) : Rat) = (a : Rat) + (b : Rat) := Rat.natCast_add ..
  exact Ap.rnd (hx.ex.rsub hy.ex) (by decide) g64 (by rw [Rat.intCast_sub, t, sub_mulR]; grind) (by rw [Rat.intCast_sub, t, sub_mulR]; grind) (by omega)
theorem Ap.add32 {x y : Nat} {n m : Int} {a b : Nat} (hx : Ap .f32 x n a) (hy : Ap .f32 y m b) (hb : (n + m).natAbs + (a + b) < 1152921504606846976) : Ap .f32 (fadd .f32 x y) (n + m) (a + b + 68719476736) := by
  have x1 := hx.lo; have x2 := hx.hi; have y1 := hy.lo; have y2 := hy.hi
  have t : ((a + b : Nat) : Rat) = (a : Rat) + (b : Rat) := Rat.natCast_add ..
  exact Ap.rnd (hx.ex.radd hy.ex) (by decide) g32 (by rw [Rat.intCast_add, t, Rat.add_mul]; grind) (by rw [Rat.intCast_add, t, Rat.add_mul]; grind) (by omega)
theorem Ap.narrow {x : Nat} {n : Int} {a : Nat} (h : Ap .f64 x n a) (hb : n.natAbs + a < 1152921504606846976) : Ap .f32 (Go.Ev.narrow x) n (a + 68719476736) ∧ ovf x = false := by
  have := Ap.rnd (narrow_rnd h.ex) (by decide) g32 h.lo h.hi (by omega)
  exact ⟨this, ovf_false h.ex this.f⟩
theorem Ap.narrow' {x : Nat} {n : Int} {a : Nat} (h : Ap .f64 x n a) (hb : n.natAbs + a < 9223372036854775808) : Ap .f32 (Go.Ev.narrow x) n (a + 549755813888) ∧ ovf x = false := by
  have := Ap.rnd (narrow_rnd h.ex) (by decide) g32' h.lo h.hi (by omega)
  exact ⟨this, ovf_false h.ex this.f⟩
theorem Ap.widen {x : Nat} {n : Int} {a : Nat} (h : Ap .f32 x n a) : Ap .f64 (Go.Ev.widen x) n a := by
  have := widen_ex h.ex
  exact ⟨this.f, this.l, by rw [this.e]; exact h.lo, by rw [this.e]; exact h.hi⟩

/-! products of bounded numbers -/
theorem bnd_mul {d m a M : Rat} (h1 : -a ≤ d) (h2 : d ≤ a) (h3 : -M ≤ m) (h4 : m ≤ M) : -(a * M) ≤ d * m ∧ d * m ≤ a * M := by
  have t1 := Rat.mul_nonneg (show 0 ≤ a - d by grind) (show 0 ≤ M - m by grind)
  have t2 := Rat.mul_nonneg (show 0 ≤ a + d by grind) (show 0 ≤ M + m by grind)
  have t3 := Rat.mul_nonneg (show 0 ≤ a - d by grind) (show 0 ≤ M + m by grind)
  have t4 := Rat.mul_nonneg (show 0 ≤ a + d by grind) (show 0 ≤ M - m by grind)
  constructor <;> grind
theorem cast_nn (n : Nat) : (0 : Rat) ≤ (n : Rat) := Rat.natCast_nonneg
theorem natAbs_le {n : Int} {N : Nat} (h : n.natAbs ≤ N) : -(N : Rat) ≤ (n : Rat) ∧ (n : Rat) ≤ (N : Rat) := by
  have h1 : -(N : Int) ≤ n := by omega
  have h2 : n ≤ (N : Int) := by omega
  have h1 := Rat.intCast_le_intCast.2 h1
  have h2 := Rat.intCast_le_intCast.2 h2
  rw [Rat.intCast_neg] at h1
  exact ⟨h1, h2⟩
theorem Ap.mul {x y : Nat} {n m : Int} {a b : Nat} (hx : Ap .f64 x n a) (hy : Ap .f64 y m b) (N M c : Nat) (hn : n.natAbs ≤ N) (hm : m.natAbs ≤ M) (hc : a * M + b * N + a * b + 1152921504606846976 ≤ c * 1152921504606846976) (hb : (n * m / 1152921504606846976).natAbs + c < 9223372036854775808) :
    Ap .f64 (fmul .f64 x y) (n * m / 1152921504606846976) (c + 1024) := by
  have x1 := hx.lo; have x2 := hx.hi; have y1 := hy.lo; have y2 := hy.hi
  obtain ⟨n1, n2⟩ := natAbs_le hn
  obtain ⟨m1, m2⟩ := natAbs_le hm
  have w0 := W_pos
  generalize hX : ev .f64 x * W = X at *
  generalize hY : ev .f64 y * W = Y at *
  have hXY : ev .f64 x * ev .f64 y * W * W = X * Y := by rw [← hX, ← hY]; grind
  obtain ⟨d1, d2⟩ := bnd_mul (d := X - n) (m := (m : Rat)) (a := a) (M := M) (by grind) (by grind) m1 m2
  obtain ⟨d3, d4⟩ := bnd_mul (d := Y - m) (m := (n : Rat)) (a := b) (M := N) (by grind) (by grind) n1 n2
  obtain ⟨d5, d6⟩ := bnd_mul (d := X - n) (m := Y - m) (a := a) (M := b) (by grind) (by grind) (by grind) (by grind)
  have hc' := Rat.natCast_le_natCast.2 hc
  simp only [Rat.natCast_add, Rat.natCast_mul] at hc'
  have hw : ((1152921504606846976 : Nat) : Rat) = W := rfl
  rw [hw] at hc'
  have q1 := Int.mul_ediv_add_emod (n * m) 1152921504606846976
  have q2 := Int.emod_nonneg (n * m) (show (1152921504606846976 : Int) ≠ 0 by decide)
  have q3 := Int.emod_lt_of_pos (n * m) (show (0 : Int) < 1152921504606846976 by decide)
  generalize n * m % 1152921504606846976 = ρ at *
  generalize hz : n * m / 1152921504606846976 = z at *
  have q1 := congrArg (fun i : Int => (i : Rat)) q1
  simp only [Rat.intCast_add, Rat.intCast_mul] at q1
  have hw2 : ((1152921504606846976 : Int) : Rat) = W := rfl
  rw [hw2] at q1
  have q2 := Rat.intCast_le_intCast.2 q2
  have q3 := Rat.intCast_lt_intCast.2 q3
  rw [hw2] at q3
  have hz0 : ((0 : Int) : Rat) = 0 := rfl
  rw [hz0] at q2
  refine Ap.rnd (hx.ex.rmul hy.ex) (by decide) g64 ?_ ?_ (by omega)
  · refine Rat.le_of_mul_le_mul_right (c := W) ?_ w0
    rw [hXY]; grind
  · refine Rat.le_of_mul_le_mul_right (c := W) ?_ w0
    rw [hXY]; grind
theorem Ap.div {x y : Nat} {n m : Int} {a b : Nat} (hx : Ap .f64 x n a) (hy : Ap .f64 y m b) (N L c : Nat) (hL : 0 < L) (hn : n.natAbs ≤ N) (hm : ((L + b : Nat) : Int) ≤ m) (hc : 1152921504606846976 * (a * L + N * b) + L * L ≤ c * (L * L)) (hb : (n * 1152921504606846976 / m).natAbs + c < 9223372036854775808) :
    Ap .f64 (fdiv .f64 x y) (n * 1152921504606846976 / m) (c + 1024) := by
  have x1 := hx.lo; have x2 := hx.hi; have y1 := hy.lo; have y2 := hy.hi
  obtain ⟨n1, n2⟩ := natAbs_le hn
  have w0 := W_pos
  have l0 : (0 : Rat) < (L : Rat) := Rat.natCast_pos.2 hL
  have hm' := Rat.intCast_le_intCast.2 hm
  have hm2 : (((L + b : Nat) : Int) : Rat) = (L : Rat) + (b : Rat) := Rat.natCast_add ..
  rw [hm2] at hm'
  have nb := cast_nn b
  have na := cast_nn a
  have nN := cast_nn N
  have hevy : ev .f64 y ≠ 0 := by
    intro h0
    rw [h0, Rat.zero_mul] at y1 y2
    grind
  have hZ : ev .f64 x / ev .f64 y * W * (ev .f64 y * W) = ev .f64 x * W * W := by
    have : ev .f64 x / ev .f64 y * ev .f64 y = ev .f64 x := by rw [Rat.div_def, Rat.mul_assoc, Rat.inv_mul_cancel _ hevy, Rat.mul_one]
    grind
  generalize hX : ev .f64 x * W = X at *
  generalize hY : ev .f64 y * W = Y at *
  have hm0 : (0 : Rat) < (m : Rat) := by grind
  have hY0 : (L : Rat) ≤ Y := by grind
  have hmL : (L : Rat) ≤ (m : Rat) := by grind
  have hmI : (0 : Int) < m := by omega
  have q1 := Int.mul_ediv_add_emod (n * 1152921504606846976) m
  have q2 := Int.emod_nonneg (n * 1152921504606846976) (show m ≠ 0 by omega)
  have q3 := Int.emod_lt_of_pos (n * 1152921504606846976) hmI
  generalize n * 1152921504606846976 % m = ρ at *
  generalize hz : n * 1152921504606846976 / m = z at *
  have q1 := congrArg (fun i : Int => (i : Rat)) q1
  simp only [Rat.intCast_add, Rat.intCast_mul] at q1
  have hw2 : ((1152921504606846976 : Int) : Rat) = W := rfl
  rw [hw2] at q1
  have q2 := Rat.intCast_le_intCast.2 q2
  have q3 := Rat.intCast_lt_intCast.2 q3
  have hz0 : ((0 : Int) : Rat) = 0 := rfl
  rw [hz0] at q2
  have hc' := Rat.natCast_le_natCast.2 hc
  simp only [Rat.natCast_add, Rat.natCast_mul] at hc'
  have hw : ((1152921504606846976 : Nat) : Rat) = W := rfl
  rw [hw] at hc'
  -- the error in the product
  obtain ⟨d1, d2⟩ := bnd_mul (d := X - n) (m := (m : Rat)) (a := a) (M := m) (by grind) (by grind) (by grind) (by grind)
  obtain ⟨d3, d4⟩ := bnd_mul (d := Y - m) (m := (n : Rat)) (a := b) (M := N) (by grind) (by grind) n1 n2
  have hYm : 0 < Y * (m : Rat) := Rat.mul_pos (by grind) hm0
  -- W (a m + N b) ≤ (c - 1) Y m
  have key : W * ((a : Rat) * m + (N : Rat) * b) ≤ ((c : Rat) - 1) * (Y * m) := by
    have t1 : (W * ((a : Rat) * L + N * b)) * (Y * m) ≤ (((c : Rat) - 1) * (L * L)) * (Y * m) := Rat.mul_le_mul_of_nonneg_right (by grind) (Rat.le_of_lt hYm)
    have t2 : 0 ≤ W * a * m * L * (Y - L) := Rat.mul_nonneg (Rat.mul_nonneg (Rat.mul_nonneg (Rat.mul_nonneg (Rat.le_of_lt w0) na) (Rat.le_of_lt hm0)) (Rat.le_of_lt l0)) (by grind)
    have t4 : (L : Rat) * L ≤ Y * m := by
      have e1 := Rat.mul_nonneg (show (0 : Rat) ≤ Y - L by grind) (Rat.le_of_lt hm0)
      have e2 := Rat.mul_nonneg (Rat.le_of_lt l0) (show (0 : Rat) ≤ m - L by grind)
      grind
    have t3 : 0 ≤ W * N * b * (Y * m - L * L) := Rat.mul_nonneg (Rat.mul_nonneg (Rat.mul_nonneg (Rat.le_of_lt w0) nN) nb) (by grind)
    have ll : (0 : Rat) < L * L := Rat.mul_pos l0 l0
    refine Rat.le_of_mul_le_mul_right (c := (L : Rat) * L) ?_ ll
    grind
  have hrY : (ρ : Rat) * Y ≤ m * Y := Rat.mul_le_mul_of_nonneg_right (Rat.le_of_lt q3) (by grind)
  have hrY0 : 0 ≤ (ρ : Rat) * Y := Rat.mul_nonneg q2 (by grind)
  have wl : W * (X * m - n * Y) ≤ W * ((a : Rat) * m + (N : Rat) * b) := Rat.mul_le_mul_of_nonneg_left (by grind) (Rat.le_of_lt w0)
  have wl2 : W * (n * Y - X * m) ≤ W * ((a : Rat) * m + (N : Rat) * b) := Rat.mul_le_mul_of_nonneg_left (by grind) (Rat.le_of_lt w0)
  have hzmY : (z : Rat) * m * Y = n * W * Y - ρ * Y := by grind
  generalize hZZ : ev .f64 x / ev .f64 y * W = Z at *
  have hZm : Z * Y * m = X * W * m := by rw [hZ]
  refine Ap.rnd (hx.ex.rdiv hy.ex hevy) (by decide) g64 ?_ ?_ (by omega)
  · rw [hZZ]
    refine Rat.le_of_mul_le_mul_right (c := Y * m) ?_ hYm
    grind
  · rw [hZZ]
    refine Rat.le_of_mul_le_mul_right (c := Y * m) ?_ hYm
    grind

theorem rep_mg {k : FloatKind} {q : Rat} (h : Rep k q) (h0 : 0 ≤ q) : ∃ t, t ≤ k.format.infRung ∧ mg k.format t = q := by
  obtain ⟨w, p1, p2, p3⟩ := h
  have hi : k.format.infRung = infOf k := inf_eq k
  refine ⟨rung k w, by rw [hi]; exact Nat.le_of_lt (fin_iff.1 p1), ?_⟩
  unfold ev at p3
  have := mg_nonneg k.format (rung k w)
  cases h : sg k w <;> rw [h] at p3 <;> simp only [sgd, cond_true, cond_false] at p3 <;> grind
theorem snear_grid {q lo hi : Rat} {r : Nat} (h : SNear FloatKind.f64.format q r) {N : Nat} {u : Rat} (hu : 0 < u) (hrep : ∀ n : Int, n.natAbs ≤ N → Rep .f64 ((n : Rat) * u)) (h0 : 0 ≤ lo) (h1 : lo * lo ≤ q) (h2 : q ≤ hi * hi) (h3 : lo ≤ hi) (h4 : hi < (N : Rat) * u) :
    lo - u ≤ mg FloatKind.f64.format r ∧ mg FloatKind.f64.format r ≤ hi + u := by
  have hne : u ≠ 0 := by grind
  have grid : ∀ y : Rat, 0 ≤ y → y < (N : Rat) * u → ∃ n : Int, 0 ≤ n ∧ n < N ∧ (n : Rat) * u ≤ y ∧ y < ((n + 1 : Int) : Rat) * u := by
    intro y hy0 hyN
    have f1 := Rat.floor_le (y / u)
    have f2 := Rat.lt_floor_add_one (y / u)
    have hq : y / u * u = y := by rw [Rat.div_def, Rat.mul_assoc, Rat.inv_mul_cancel _ hne, Rat.mul_one]
    generalize (y / u).floor = n at *
    have g1 := Rat.mul_le_mul_of_nonneg_right f1 (Rat.le_of_lt hu)
    have g2 := Rat.mul_lt_mul_of_pos_right f2 hu
    rw [hq] at g1 g2
    refine ⟨n, ?_, ?_, g1, g2⟩
    · have : ((0 : Int) : Rat) * u < ((n + 1 : Int) : Rat) * u := by rw [show ((0 : Int) : Rat) = 0 from rfl, Rat.zero_mul]; grind
      have := Rat.intCast_lt_intCast.1 (Rat.lt_of_mul_lt_mul_right this (Rat.le_of_lt hu))
      omega
    · have : (n : Rat) * u < ((N : Int) : Rat) * u := by
        have : ((N : Int) : Rat) = (N : Rat) := rfl
        rw [this]; grind
      exact Rat.intCast_lt_intCast.1 (Rat.lt_of_mul_lt_mul_right this (Rat.le_of_lt hu))
  have nnm : ∀ n : Int, 0 ≤ n → 0 ≤ (n : Rat) * u := fun n hn => Rat.mul_nonneg (by have := Rat.intCast_le_intCast.2 hn; exact this) (Rat.le_of_lt hu)
  have hs : ∀ n : Int, ((n + 1 : Int) : Rat) * u = (n : Rat) * u + u := fun n => by rw [Rat.intCast_add, Rat.add_mul, show ((1 : Int) : Rat) = 1 from rfl, Rat.one_mul]
  constructor
  · obtain ⟨n, a1, a2, a3, a4⟩ := grid lo h0 (by grind)
    obtain ⟨t, t1, t2⟩ := rep_mg (hrep n (by omega)) (nnm n a1)
    have hle := h.lo t t1 (by rw [t2]; have := sq_le (nnm n a1) a3; grind)
    have := mg_le FloatKind.f64.format hle
    rw [t2] at this
    rw [hs] at a4
    grind
  · obtain ⟨n, a1, a2, a3, a4⟩ := grid hi (by grind) h4
    obtain ⟨t, t1, t2⟩ := rep_mg (hrep (n + 1) (by omega)) (nnm (n + 1) (by omega))
    have hle := h.hi t (by rw [t2]; have := sq_le (show 0 ≤ hi by grind) (Rat.le_of_lt a4); grind)
    have := mg_le FloatKind.f64.format hle
    rw [t2, hs] at this
    grind
theorem Ap.sqrt {x : Nat} {n : Int} {a : Nat} (hx : Ap .f64 x n a) (hn : (a : Int) < n) (s : Int) (S0 c0 δ : Nat) (hs : (S0 : Int) ≤ s) (hd : δ ≤ S0) (h1 : (s * s - n * 1152921504606846976).natAbs ≤ c0 * 1152921504606846976) (h2 : (c0 + a) * 1152921504606846976 ≤ δ * S0) (hb : s.natAbs + δ < 9223372036854775808) :
    Ap .f64 (fsqrt .f64 x) s (δ + 1024) := by
  have x1 := hx.lo; have x2 := hx.hi
  have w0 := W_pos
  have hW : W ≠ 0 := by grind
  have hwi : ((1152921504606846976 : Int) : Rat) = W := rfl
  have hwn : ((1152921504606846976 : Nat) : Rat) = W := rfl
  have hpos : 0 < ev .f64 x := by
    have := Rat.intCast_lt_intCast.2 hn
    have t : (((a : Nat) : Int) : Rat) = (a : Rat) := rfl
    rw [t] at this
    refine Rat.not_le.1 fun hc => ?_
    have := Rat.mul_le_mul_of_nonneg_right hc (Rat.le_of_lt w0)
    rw [Rat.zero_mul] at this
    grind
  obtain ⟨r, e, hr⟩ := fsqrt_pos hx.f hpos
  obtain ⟨s1, s2⟩ := natAbs_le h1
  simp only [Rat.intCast_sub, Rat.intCast_mul, Rat.natCast_mul, hwi, hwn] at s1 s2
  have h2' := Rat.natCast_le_natCast.2 h2
  simp only [Rat.natCast_add, Rat.natCast_mul, hwn] at h2'
  have hs' := Rat.intCast_le_intCast.2 hs
  have t : (((S0 : Nat) : Int) : Rat) = (S0 : Rat) := rfl
  rw [t] at hs'
  have hd' := Rat.natCast_le_natCast.2 hd
  have nd := cast_nn δ
  have hds : (δ : Rat) * S0 ≤ δ * s := Rat.mul_le_mul_of_nonneg_left hs' nd
  have hdd : (δ : Rat) * δ ≤ δ * s := Rat.mul_le_mul_of_nonneg_left (by grind) nd
  have hdd0 : 0 ≤ (δ : Rat) * δ := Rat.mul_nonneg nd nd
  have hu : (0 : Rat) < ((1024 : Nat) : Rat) / W := by rw [Rat.div_def]; exact Rat.mul_pos (by decide) (Rat.inv_pos.2 w0)
  have inv : W * W⁻¹ = 1 := Rat.mul_inv_cancel _ hW
  have i0 : 0 < W⁻¹ := Rat.inv_pos.2 w0
  have hX : ev .f64 x * W * W⁻¹ = ev .f64 x := by rw [Rat.mul_assoc, inv, Rat.mul_one]
  generalize ev .f64 x * W = X at *
  have lowr : ((s : Rat) - δ) * (s - δ) ≤ X * W := by
    have : ((n : Rat) - a) * W ≤ X * W := Rat.mul_le_mul_of_nonneg_right x1 (Rat.le_of_lt w0)
    grind
  have uppr : X * W ≤ ((s : Rat) + δ) * (s + δ) := by
    have : X * W ≤ ((n : Rat) + a) * W := Rat.mul_le_mul_of_nonneg_right x2 (Rat.le_of_lt w0)
    grind
  have hsq : ∀ z : Rat, (z * W⁻¹) * (z * W⁻¹) = (z * z) * (W⁻¹ * W⁻¹) := fun z => by grind
  have hXW : X * W * (W⁻¹ * W⁻¹) = ev .f64 x := by rw [← hX]; grind
  have ii : 0 ≤ W⁻¹ * W⁻¹ := Rat.mul_nonneg (Rat.le_of_lt i0) (Rat.le_of_lt i0)
  have sd : (0 : Rat) ≤ s - δ := by grind
  have q1 : ((s : Rat) - δ) * W⁻¹ * (((s : Rat) - δ) * W⁻¹) ≤ ev .f64 x := by rw [hsq, ← hXW]; exact Rat.mul_le_mul_of_nonneg_right lowr ii
  have q2 : ev .f64 x ≤ ((s : Rat) + δ) * W⁻¹ * (((s : Rat) + δ) * W⁻¹) := by rw [hsq, ← hXW]; exact Rat.mul_le_mul_of_nonneg_right uppr ii
  have hN : ((s : Rat) + δ) * W⁻¹ < ((9007199254740992 : Nat) : Rat) * (((1024 : Nat) : Rat) / W) := by
    have b1 : s + (δ : Int) < 9223372036854775808 := by omega
    have b1 := Rat.intCast_lt_intCast.2 b1
    rw [Rat.intCast_add] at b1
    have t2 : ((δ : Int) : Rat) = (δ : Rat) := rfl
    rw [t2] at b1
    have := Rat.mul_lt_mul_of_pos_right b1 i0
    rw [Rat.div_def, ← Rat.mul_assoc]
    have t3 : ((9007199254740992 : Nat) : Rat) * ((1024 : Nat) : Rat) = ((9223372036854775808 : Int) : Rat) := by decide +kernel
    rw [t3]
    exact this
  have hle : ((s : Rat) - δ) * W⁻¹ ≤ ((s : Rat) + δ) * W⁻¹ := Rat.mul_le_mul_of_nonneg_right (by grind) (Rat.le_of_lt i0)
  obtain ⟨g1, g2⟩ := snear_grid hr hu g64 (Rat.mul_nonneg sd (Rat.le_of_lt i0)) q1 q2 hle hN
  have ri : r ≤ infOf .f64 := by have := hr.inf; rwa [inf_eq] at this
  have hev : ev .f64 (fsqrt .f64 x) = mg FloatKind.f64.format r := by rw [e, ev_word ri]; rfl
  have hfin : r < infOf .f64 := by
    refine Nat.lt_of_le_of_ne ri fun hc => ?_
    rw [hc, mg_inf] at g2
    have big : (16 : Rat) ≤ pw 1024 := by
      have h4 : pw 4 ≤ pw 1024 := pw_le (by omega)
      have h5 : pw 4 = 16 := by rw [show (4 : Int) = ((4 : Nat) : Int) from rfl, pw_nat]; rfl
      grind
    have small : ((9007199254740992 : Nat) : Rat) * (((1024 : Nat) : Rat) / W) = 8 := by unfold W; decide +kernel
    have small2 : (((1024 : Nat) : Rat) / W) < 1 := by unfold W; decide +kernel
    simp only at g2
    grind
  have hd2 : (((1024 : Nat) : Rat) / W) * W = ((1024 : Nat) : Rat) := by rw [Rat.div_def, Rat.mul_assoc, Rat.inv_mul_cancel _ hW, Rat.mul_one]
  have g1 := Rat.mul_le_mul_of_nonneg_right g1 (Rat.le_of_lt w0)
  have g2 := Rat.mul_le_mul_of_nonneg_right g2 (Rat.le_of_lt w0)
  have c1 : ((s : Rat) - δ) * W⁻¹ * W = s - δ := by rw [Rat.mul_assoc, Rat.inv_mul_cancel _ hW, Rat.mul_one]
  have c2 : ((s : Rat) + δ) * W⁻¹ * W = s + δ := by rw [Rat.mul_assoc, Rat.inv_mul_cancel _ hW, Rat.mul_one]
  rw [sub_mulR, c1, hd2] at g1
  rw [Rat.add_mul, c2, hd2] at g2
  have tt : ((δ + 1024 : Nat) : Rat) = (δ : Rat) + ((1024 : Nat) : Rat) := Rat.natCast_add ..
  have hw := word_sg (k := .f64) (s := false) ri
  refine ⟨?_, ?_, by rw [hev, tt]; grind, by rw [hev, tt]; grind⟩
  · rw [e, fin_iff, hw.2.1]; exact hfin
  · rw [e]; exact hw.2.2
end Fl
end Go.Ev
