/- Floats as rational numbers: the middle of two neighbours. -/
import Derived.Test.YtfdalaakechldaaFlF
set_option linter.unusedVariables false
set_option linter.unusedSimpArgs false
namespace Go.Ev
open Ieee

namespace Fl
variable {k : FloatKind} {x y : Nat}

theorem fin_of_ev {b w : Nat} (hb : nan k b = false) (hw : fin k w = true) (e : ev k b = ev k w) : fin k b = true := by
  have h1 := (fin_pos (fin_nan hw)).1 hw
  rw [fin_pos hb, ev_eq_iff.1 e]
  exact h1
theorem ev_of_pos {s : Bool} {r : Nat} (h : pos k x = bif s then -(r : Int) else (r : Int)) : ev k x = sgd s (mg k.format r) := by
  have z := mg_zero k.format
  unfold pos at h
  unfold ev
  cases s1 : sg k x <;> cases s <;> rw [s1] at h <;> simp only [cond_true, cond_false] at h <;> simp only [sgd, cond_true, cond_false]
  · rw [show rung k x = r by omega]
  · have h1 : rung k x = 0 := by omega
    have h2 : r = 0 := by omega
    rw [h1, h2, z]; rfl
  · have h1 : rung k x = 0 := by omega
    have h2 : r = 0 := by omega
    rw [h1, h2, z]; rfl
  · rw [show rung k x = r by omega]

theorem rep64_pw {n : Nat} {e : Int} {s : Bool} (hn : n ≤ 9007199254740992) (h1 : -1074 ≤ e) (h2 : e ≤ 900) : Rep .f64 (sgd s ((n : Rat) * pw e)) := by
  have h : Rep .f64 ((n : Rat) * pw e) := by
    refine rep_nat hn h1 ?_
    rw [mg_inf]
    have a1 : pw e ≤ pw 900 := pw_le h2
    have a2 : (n : Rat) ≤ ((2 ^ 53 : Nat) : Rat) := Rat.natCast_le_natCast.2 hn
    have a3 : (n : Rat) * pw e ≤ (n : Rat) * pw 900 := Rat.mul_le_mul_of_nonneg_left a1 Rat.natCast_nonneg
    have a4 : (n : Rat) * pw 900 ≤ ((2 ^ 53 : Nat) : Rat) * pw 900 := Rat.mul_le_mul_of_nonneg_right a2 (Rat.le_of_lt (pw_pos _))
    have a5 : ((2 ^ 53 : Nat) : Rat) * pw 900 = pw 953 := by rw [← pw_nat, ← pw_add]; rfl
    have a6 := pw_succ 953
    have a7 := pw_pos 953
    have a8 : pw (953 + 1) ≤ pw 1024 := pw_le (by omega)
    have : (n : Rat) * pw e < pw 1024 := by grind
    exact this
  cases s
  · exact h
  · exact h.neg

theorem ex_two : Ex .f64 4611686018427387904 2 := by
  refine ⟨by decide, by decide, ?_⟩
  have h : mg FloatKind.f64.format (1023 * FloatKind.f64.format.binade + FloatKind.f64.format.binade) = _ := mg_at FloatKind.f64.format 1023 FloatKind.f64.format.binade (by omega) (.inr (Nat.le_refl _))
  rw [show 1023 * FloatKind.f64.format.binade + FloatKind.f64.format.binade = rung .f64 4611686018427387904 by decide +kernel, show FloatKind.f64.format.binade = 2 ^ 52 from rfl, ← pw_nat, ← pw_add] at h
  have : sg .f64 4611686018427387904 = false := by decide
  unfold ev
  rw [this, h, show ((52 : Nat) : Int) + (FloatKind.f64.format.leastPlace + (1023 : Nat)) = 0 + 1 from rfl, pw_succ, pw_zero]
  exact Rat.mul_one 2

theorem par_rung {s : Bool} {t : Nat} (px : pos .f32 x = (bif s then -((t + 1 : Nat) : Int) else (t : Int))) (lx : x < 2 * signOf .f32) : x % 2 = (bif s then t + 1 else t) % 2 := by
  obtain ⟨n, hs2⟩ : ∃ n, signOf .f32 = 2 * n := ⟨1073741824, rfl⟩
  have hrg : rung .f32 x = (bif s then t + 1 else t) := by
    unfold pos at px
    cases h1 : sg .f32 x <;> cases s <;> rw [h1] at px <;> simp only [cond_true, cond_false] at px ⊢ <;> omega
  rw [← hrg]
  have := x_cases lx
  rw [hs2] at this
  rcases this with ⟨_, b⟩ | ⟨_, b⟩ <;> omega
theorem inf_nw (x : Nat) (h : x = 2139095040 ∨ x = 4286578688) : narrow (widen x) = x ∧ ovf (widen x) = false := by
  rcases h with rfl | rfl
  · exact ⟨by decide +kernel, by decide +kernel⟩
  · exact ⟨by decide +kernel, by decide +kernel⟩
/-- The middle of two neighbours, and the middles between it and them, as 32-bit numbers. -/
theorem narrowed (hx : fin .f32 x = true) (lx : x < 2 * signOf .f32) (hy : fin .f32 y = true) (ly : y < 2 * signOf .f32) (hp : pos .f32 y = pos .f32 x + 1)
    {mid low high : Nat} (e1 : mid = fdiv .f64 (fadd .f64 (widen x) (widen y)) 4611686018427387904) (e2 : low = fdiv .f64 (fadd .f64 (widen x) mid) 4611686018427387904)
    (e3 : high = fdiv .f64 (fadd .f64 (widen y) mid) 4611686018427387904) :
    (ovf mid = false ∧ ovf low = false ∧ ovf high = false) ∧ (feq .f32 (narrow low) x = true ∧ feq .f32 (narrow high) y = true) ∧ feq .f32 (narrow mid) (if x % 2 = 1 then y else x) = true := by
  -- the two rungs
  obtain ⟨s, t, ht, px, py⟩ : ∃ (s : Bool) (t : Nat), t + 1 < infOf .f32 ∧ pos .f32 x = (bif s then -((t + 1 : Nat) : Int) else (t : Int)) ∧ pos .f32 y = (bif s then -((t : Nat) : Int) else ((t + 1 : Nat) : Int)) := by
    have r1 := (fin_pos (fin_nan hx)).1 hx
    have r2 := (fin_pos (fin_nan hy)).1 hy
    by_cases h : 0 ≤ pos .f32 x
    · exact ⟨false, (pos .f32 x).toNat, by omega, by simp only [cond_false]; omega, by simp only [cond_false]; omega⟩
    · exact ⟨true, (-pos .f32 x - 1).toNat, by omega, by simp only [cond_true]; omega, by simp only [cond_true]; omega⟩
  have vx : ev .f32 x = sgd s (mg FloatKind.f32.format (bif s then t + 1 else t)) := ev_of_pos (by rw [px]; cases s <;> rfl)
  have vy : ev .f32 y = sgd s (mg FloatKind.f32.format (bif s then t else t + 1)) := ev_of_pos (by rw [py]; cases s <;> rfl)
  obtain ⟨p, j, rfl, j1, j2⟩ := scale FloatKind.f32.format t
  have hB : FloatKind.f32.format.binade = 8388608 := rfl
  have hL : FloatKind.f32.format.leastPlace = -149 := rfl
  have hI : infOf .f32 = 2139095040 := rfl
  have m0 : mg FloatKind.f32.format (p * FloatKind.f32.format.binade + j) = (j : Rat) * pw (-149 + p) := mg_at _ p j (by omega) j2
  have m1 : mg FloatKind.f32.format (p * FloatKind.f32.format.binade + j + 1) = ((j : Rat) + 1) * pw (-149 + p) := by
    rw [Nat.add_assoc, mg_at _ p (j + 1) (by omega) (by omega), Rat.natCast_add]; rfl
  have hpp : p ≤ 300 := by
    have h := ht
    rw [hB] at h
    omega
  -- exact steps
  have Xx : Ex .f32 x (ev .f32 x) := ⟨hx, lx, rfl⟩
  have Xy : Ex .f32 y (ev .f32 y) := ⟨hy, ly, rfl⟩
  have Wx := widen_ex Xx
  have Wy := widen_ex Xy
  have q1 : pw (-149 + p) = 2 * pw (-150 + p) := by rw [← pw_succ]; congr 1; omega
  have q2 : pw (-150 + p) = 2 * pw (-151 + p) := by rw [← pw_succ]; congr 1; omega
  have c2 : ∀ n : Nat, ((2 * n + 1 : Nat) : Rat) = 2 * (n : Rat) + 1 := fun n => by rw [Rat.natCast_add, Rat.natCast_mul]; rfl
  have c4 : ∀ n : Nat, ((4 * n + 1 : Nat) : Rat) = 4 * (n : Rat) + 1 := fun n => by rw [Rat.natCast_add, Rat.natCast_mul]; rfl
  have c43 : ∀ n : Nat, ((4 * n + 3 : Nat) : Rat) = 4 * (n : Rat) + 3 := fun n => by rw [Rat.natCast_add, Rat.natCast_mul]; rfl
  have S1 : ev .f32 x + ev .f32 y = sgd s (((2 * j + 1 : Nat) : Rat) * pw (-149 + p)) := by
    rw [vx, vy, c2]
    cases s <;> simp only [sgd, cond_true, cond_false] <;> rw [m0, m1] <;> grind
  have A1 := Wx.add Wy (by rw [S1]; exact rep64_pw (by omega) (by omega) (by omega))
  have S2 : (ev .f32 x + ev .f32 y) / 2 = sgd s (((2 * j + 1 : Nat) : Rat) * pw (-150 + p)) := by
    rw [S1, q1]
    cases s <;> simp only [sgd, cond_true, cond_false] <;> grind
  have A2 := A1.div ex_two (by decide) (by rw [S2]; exact rep64_pw (by omega) (by omega) (by omega))
  rw [← e1] at A2
  have S3 : ev .f32 x + (ev .f32 x + ev .f32 y) / 2 = sgd s (((bif s then 4 * j + 3 else 4 * j + 1 : Nat) : Rat) * pw (-150 + p)) := by
    rw [S2, vx, c2]
    cases s <;> simp only [sgd, cond_true, cond_false] <;> first | rw [m0, c4, q1] | rw [m1, c43, q1]
    all_goals grind
  have S4 : ev .f32 y + (ev .f32 x + ev .f32 y) / 2 = sgd s (((bif s then 4 * j + 1 else 4 * j + 3 : Nat) : Rat) * pw (-150 + p)) := by
    rw [S2, vy, c2]
    cases s <;> simp only [sgd, cond_true, cond_false] <;> first | rw [m0, c4, q1] | rw [m1, c43, q1]
    all_goals grind
  have A3 := Wx.add A2 (by rw [S3]; exact rep64_pw (by cases s <;> simp only [cond_true, cond_false] <;> omega) (by omega) (by omega))
  have A4 := Wy.add A2 (by rw [S4]; exact rep64_pw (by cases s <;> simp only [cond_true, cond_false] <;> omega) (by omega) (by omega))
  have S5 : (ev .f32 x + (ev .f32 x + ev .f32 y) / 2) / 2 = sgd s (((bif s then 4 * j + 3 else 4 * j + 1 : Nat) : Rat) * pw (-151 + p)) := by
    rw [S3, q2]
    cases s <;> simp only [sgd, cond_true, cond_false] <;> grind
  have S6 : (ev .f32 y + (ev .f32 x + ev .f32 y) / 2) / 2 = sgd s (((bif s then 4 * j + 1 else 4 * j + 3 : Nat) : Rat) * pw (-151 + p)) := by
    rw [S4, q2]
    cases s <;> simp only [sgd, cond_true, cond_false] <;> grind
  have A5 := A3.div ex_two (by decide) (by rw [S5]; exact rep64_pw (by cases s <;> simp only [cond_true, cond_false] <;> omega) (by omega) (by omega))
  have A6 := A4.div ex_two (by decide) (by rw [S6]; exact rep64_pw (by cases s <;> simp only [cond_true, cond_false] <;> omega) (by omega) (by omega))
  rw [← e2] at A5
  rw [← e3] at A6
  -- rounded
  have N1 := narrow_rnd A2
  have N2 := narrow_rnd A5
  have N3 := narrow_rnd A6
  have hu := pw_pos (-151 + p)
  have hj : (0 : Rat) ≤ (j : Rat) := Rat.natCast_nonneg
  have hju := Rat.mul_nonneg hj (Rat.le_of_lt hu)
  have R1 : ev .f32 (narrow mid) = sgd s (mg FloatKind.f32.format (p * FloatKind.f32.format.binade + j + (p * FloatKind.f32.format.binade + j) % 2)) := by
    refine Rnd.tie (k := .f32) ?_ (by omega)
    have : sgd s ((mg FloatKind.f32.format (p * FloatKind.f32.format.binade + j) + mg FloatKind.f32.format (p * FloatKind.f32.format.binade + j + 1)) / 2) = (ev .f32 x + ev .f32 y) / 2 := by
      rw [S2, m0, m1, c2, q1]
      cases s <;> simp only [sgd, cond_true, cond_false] <;> grind
    rw [this]; exact N1
  have lowF : ∀ {b}, Rnd .f32 (sgd s (((4 * j + 1 : Nat) : Rat) * pw (-151 + p))) b → ev .f32 b = sgd s (mg FloatKind.f32.format (p * FloatKind.f32.format.binade + j)) := by
    intro b hb
    refine hb.lower (by omega) ?_ ?_ ?_
    · rw [c4]; grind
    · rw [m0, c4]; grind
    · rw [m0, m1, c4]; grind
  have upF : ∀ {b}, Rnd .f32 (sgd s (((4 * j + 3 : Nat) : Rat) * pw (-151 + p))) b → ev .f32 b = sgd s (mg FloatKind.f32.format (p * FloatKind.f32.format.binade + j + 1)) := by
    intro b hb
    refine hb.upper (by omega) ?_ ?_ ?_
    · rw [c43]; grind
    · rw [m1, c43]; grind
    · rw [m0, m1, c43]; grind
  have R2 : ev .f32 (narrow low) = ev .f32 x := by
    rw [S5] at N2
    rw [vx]
    cases s
    · exact lowF N2
    · exact upF N2
  have R3 : ev .f32 (narrow high) = ev .f32 y := by
    rw [S6] at N3
    rw [vy]
    cases s
    · exact upF N3
    · exact lowF N3
  have par : x % 2 = (bif s then p * FloatKind.f32.format.binade + j + 1 else p * FloatKind.f32.format.binade + j) % 2 := par_rung px lx
  have R1' : ev .f32 (narrow mid) = ev .f32 (if x % 2 = 1 then y else x) := by
    rw [R1, par]
    cases s
    · simp only [cond_false] at vx vy ⊢
      by_cases h : (p * FloatKind.f32.format.binade + j) % 2 = 1
      · rw [if_pos h, h, vy]
      · rw [if_neg h, show (p * FloatKind.f32.format.binade + j) % 2 = 0 by omega, Nat.add_zero, vx]
    · simp only [cond_true] at vx vy ⊢
      by_cases h : (p * FloatKind.f32.format.binade + j) % 2 = 1
      · rw [if_neg (by omega), h, vx]
      · rw [if_pos (by omega), show (p * FloatKind.f32.format.binade + j) % 2 = 0 by omega, Nat.add_zero, vy]
  have fe : fin .f32 (if x % 2 = 1 then y else x) = true := by
    by_cases h : x % 2 = 1
    · rw [if_pos h]; exact hy
    · rw [if_neg h]; exact hx
  refine ⟨⟨ovf_false A2 (fin_of_ev N1.nan fe R1'), ovf_false A5 (fin_of_ev N2.nan hx R2), ovf_false A6 (fin_of_ev N3.nan hy R3)⟩, ⟨?_, ?_⟩, ?_⟩
  · rw [feq_ev N2.nan (fin_nan hx), decide_eq_true R2]
  · rw [feq_ev N3.nan (fin_nan hy), decide_eq_true R3]
  · rw [feq_ev N1.nan (fin_nan fe), decide_eq_true R1']

/-- A word that is widened and narrowed. -/
theorem narrow_widen (hl : x < 2 * signOf .f32) (hc : canon .f32 x = x) : narrow (widen x) = x ∧ ovf (widen x) = false := by
  cases hn : nan .f32 x with
  | true =>
    rw [canon_nan hn] at hc
    subst hc
    exact ⟨by decide +kernel, by decide +kernel⟩
  | false =>
    by_cases hf : fin .f32 x = true
    · have X : Ex .f32 x (ev .f32 x) := ⟨hf, hl, rfl⟩
      obtain ⟨h1, h2⟩ := narrow_ex (widen_ex X) X.rep
      refine ⟨?_, h2⟩
      by_cases h0 : ev .f32 x = 0
      · rcases (ev_zero hl).1 h0 with rfl | rfl
        · decide +kernel
        · decide +kernel
      · exact h1.inj X h0
    · have hr := nan_false.1 hn
      have hri : rung .f32 x = infOf .f32 := by
        have : ¬ rung .f32 x < infOf .f32 := fun c => hf (fin_iff.2 c)
        omega
      apply inf_nw
      rcases x_cases hl with ⟨_, b⟩ | ⟨_, b⟩
      · rw [hri] at b; exact .inl b
      · rw [hri] at b; exact .inr b

end Fl
end Go.Ev
