/- Angles and sines of floats: points in sixteenths. -/
import Derived.Test.YtkdkcdkjfiabfaaFlN
set_option linter.unusedVariables false
set_option linter.unusedSimpArgs false
set_option maxRecDepth 20000
namespace Go.Ev
open Ieee
namespace Fl

theorem abs_ap {x : Nat} {n : Int} {e : Nat} (h : Ap .f64 x n e) : Ap .f64 (abs64 x) ((n.natAbs : Nat) : Int) e := by
  have hr := fin_iff.1 h.f
  have hi : infOf .f64 < signOf .f64 := by decide
  have hS : signOf .f64 = 9223372036854775808 := rfl
  have hab : abs64 x = rung .f64 x := rfl
  have hrr : rung .f64 (abs64 x) = rung .f64 x := by rw [hab]; unfold rung; exact Nat.mod_mod _ _
  have hsg : sg .f64 (abs64 x) = false := by
    have : abs64 x < 9223372036854775808 := Nat.mod_lt _ (by decide)
    unfold sg
    rw [hS, Nat.div_eq_of_lt this]; rfl
  have hev : ev .f64 (abs64 x) = mg FloatKind.f64.format (rung .f64 x) := by unfold ev; rw [hsg, hrr]; rfl
  have hx : ev .f64 x = sgd (sg .f64 x) (mg FloatKind.f64.format (rung .f64 x)) := rfl
  have h0 := mg_nonneg FloatKind.f64.format (rung .f64 x)
  have h0 := Rat.mul_nonneg h0 (Rat.le_of_lt W_pos)
  have lo := h.lo
  have hi2 := h.hi
  rw [hx] at lo hi2
  refine ⟨by rw [fin_iff, hrr]; exact hr, by rw [hab]; unfold rung; have := Nat.mod_lt x (show 0 < signOf .f64 by decide); omega, ?_, ?_⟩ <;>
  · rw [hev]
    by_cases hn : 0 ≤ n
    · have en : (((n.natAbs : Nat) : Int) : Rat) = (n : Rat) := congrArg _ (show ((n.natAbs : Nat) : Int) = n by omega)
      have hn' : (0 : Rat) ≤ (n : Rat) := by have := Rat.intCast_le_intCast.2 hn; exact this
      rw [en]
      cases hs : sg .f64 x <;> rw [hs] at lo hi2 <;> simp only [sgd, cond_true, cond_false, Rat.neg_mul] at lo hi2 <;> grind
    · have en : (((n.natAbs : Nat) : Int) : Rat) = -(n : Rat) := by rw [show ((n.natAbs : Nat) : Int) = -n by omega, Rat.intCast_neg]
      have hn' : (n : Rat) ≤ 0 := by have := Rat.intCast_le_intCast.2 (show n ≤ 0 by omega); exact this
      rw [en]
      cases hs : sg .f64 x <;> rw [hs] at lo hi2 <;> simp only [sgd, cond_true, cond_false, Rat.neg_mul] at lo hi2 <;> grind
theorem ap32_zero : Ap .f32 0 0 0 := Ap.exact (q := 0) ⟨by decide, by decide, (ev_zero (by decide)).2 (.inl rfl)⟩ (by rw [Rat.zero_mul]; rfl)
theorem ap32_lit {x : Nat} (p j sh : Nat) (n : Int) (hj : j ≤ 2 * FloatKind.f32.format.binade) (h : p = 0 ∨ FloatKind.f32.format.binade ≤ j) (hx : x = p * FloatKind.f32.format.binade + j) (hr : x < infOf .f32) (he : p = 89 + sh) (hn : n = ((j * 2 ^ sh : Nat) : Int)) : Ap .f32 x n 0 := by
  have hw : x = FloatKind.f32.format.word false (p * FloatKind.f32.format.binade + j) := hx
  have e := ev_lit false p j hj h hw (by rw [← hx]; omega)
  have hi : infOf .f32 < signOf .f32 := by decide
  have hex : Ex .f32 x ((j : Rat) * pw (FloatKind.f32.format.leastPlace + p)) := ⟨by rw [fin_iff]; unfold rung; rw [Nat.mod_eq_of_lt (by omega)]; exact hr, by omega, e⟩
  refine Ap.exact hex ?_
  have hW : W = pw 60 := by
    rw [show (60 : Int) = ((60 : Nat) : Int) from rfl, pw_nat]; rfl
  have hl : FloatKind.f32.format.leastPlace = -149 := rfl
  rw [hW, Rat.mul_assoc, ← pw_add, hl, show (-149 : Int) + (p : Int) + 60 = ((sh : Nat) : Int) by omega, pw_nat, hn, ← Rat.natCast_mul]
  rfl
theorem ap32_quarter : Ap .f32 1048576000 288230376151711744 0 := ap32_lit 124 8388608 35 _ (by decide) (by decide) (by decide) (by decide) (by decide) (by decide)
theorem ap32_half : Ap .f32 1056964608 576460752303423488 0 := ap32_lit 125 8388608 36 _ (by decide) (by decide) (by decide) (by decide) (by decide) (by decide)
theorem ap32_nhalf : Ap .f32 3204448256 (-576460752303423488) 0 := by
  have := ap32_half.neg
  rwa [show fneg .f32 1056964608 = 3204448256 by decide +kernel] at this

/-- The word of a sum, before it is mirrored. -/
def angW (y x : Nat) : Nat := (fun a b : Nat => bif fgt .f64 a b then fsub .f64 4598175219545276416 (angG (angTs (bif fgt .f64 a b then fdiv .f64 b a else fdiv .f64 a b) 3)) else angG (angTs (bif fgt .f64 a b then fdiv .f64 b a else fdiv .f64 a b) 3)) (abs64 (widen y)) (abs64 (widen x))
theorem ang64_eq (y x : Nat) : ang64 y x = (fun g : Nat => bif flt .f32 y 0 then fneg .f64 g else g) (bif flt .f32 x 0 then fsub .f64 4602678819172646912 (angW y x) else angW y x) := rfl

theorem div_hc (N L : Nat) : 1152921504606846976 * (0 * L + N * 0) + L * L ≤ 1 * (L * L) := by simp
theorem quot_ap {A B : Nat} {a b : Nat} (hA : Ap .f64 A ((a * 72057594037927936 : Nat) : Int) 0) (hB : Ap .f64 B ((b * 72057594037927936 : Nat) : Int) 0) (hb : 1 ≤ b) (hab : a ≤ b) (h64 : b ≤ 64) : Ap .f64 (fdiv .f64 A B) ((a * 1152921504606846976 / b : Nat) : Int) 1025 := by
  have e : (((a * 72057594037927936 : Nat) : Int) * 1152921504606846976 / ((b * 72057594037927936 : Nat) : Int)) = ((a * 1152921504606846976 / b : Nat) : Int) := by
    rw [show ((a * 72057594037927936 : Nat) : Int) * 1152921504606846976 = ((a * 1152921504606846976 : Nat) : Int) * 72057594037927936 by omega, show ((b * 72057594037927936 : Nat) : Int) = (b : Int) * 72057594037927936 by omega, Int.mul_ediv_mul_of_pos_left _ _ (by decide)]
    exact (Int.natCast_ediv _ _).symm
  have hq : a * 1152921504606846976 / b ≤ 1152921504606846976 := Nat.div_le_of_le_mul (Nat.mul_le_mul_right _ hab)
  have := hA.div hB 4611686018427387904 (b * 72057594037927936) 1 (by omega) (by omega) (by omega) (div_hc _ _)
  rw [e] at this
  exact this (room rfl (by omega))
theorem angW_ap {x y : Nat} {i j : Int} (hx : Ap .f32 x (i * 72057594037927936) 0) (hy : Ap .f32 y (j * 72057594037927936) 0) (hi : i ≠ 0) (hj : j ≠ 0) (hi2 : i.natAbs ≤ 64) (hj2 : j.natAbs ≤ 64) :
    ∃ r : Nat, 2305843009213693 ≤ r ∧ r ≤ 285924533142498051 ∧ Ap .f64 (angW y x) r 17424 ∧
    ∀ fs fc lx, Ap .f64 fs r 274877906944 → Ap .f64 fc ((288230376151711744 - r : Nat) : Int) 274877906944 → Ap .f64 lx (((i.natAbs * i.natAbs + j.natAbs * j.natAbs) * 4503599627370496 : Nat) : Int) 0 →
      ∃ s c l : Nat, s ≤ 1164450719652915445 ∧ c ≤ 1164450719652915445 ∧ l ≤ 6917529027641081856 ∧ Ap .f64 (sinO fs) s 4770000001024 ∧ Ap .f64 (sinO fc) c 4770000001024 ∧ Ap .f64 (fsqrt .f64 lx) l 1409 ∧
        near2 (s * l / 1152921504606846976) (j.natAbs * 72057594037927936) 57646075230342 = true ∧ near2 (c * l / 1152921504606846976) (i.natAbs * 72057594037927936) 57646075230342 = true := by
  have hA := abs_ap hy.widen
  have hB := abs_ap hx.widen
  rw [show (j * 72057594037927936).natAbs = j.natAbs * 72057594037927936 by omega] at hA
  rw [show (i * 72057594037927936).natAbs = i.natAbs * 72057594037927936 by omega] at hB
  have ha1 : 1 ≤ j.natAbs := by omega
  have hb1 : 1 ≤ i.natAbs := by omega
  generalize j.natAbs = b at *
  generalize i.natAbs = a at *
  unfold angW
  dsimp only
  by_cases hab : b ≤ a
  · rw [hA.fgt_f hB (by omega)]
    simp only [cond_false]
    obtain ⟨g, g1, g2, G, H⟩ := core (chk_all ha1 hab hi2) ha1 hab hi2 (quot_ap hA hB hb1 hab hi2)
    exact ⟨g, g1, by omega, G.le (by decide), H⟩
  · rw [hA.fgt_t hB (by omega)]
    simp only [cond_true]
    obtain ⟨g, g1, g2, G, H⟩ := core (chk_all hb1 (show a ≤ b by omega) hj2) hb1 (by omega) hj2 (quot_ap hB hA ha1 (by omega) hj2)
    have Q := ap_quarter.sub G (by omega)
    rw [show (288230376151711744 : Int) - (g : Int) = ((288230376151711744 - g : Nat) : Int) by omega] at Q
    refine ⟨288230376151711744 - g, by omega, by omega, Q.le (by decide), fun fs fc lx h1 h2 h3 => ?_⟩
    rw [show 288230376151711744 - (288230376151711744 - g) = g by omega] at h2
    rw [show a * a + b * b = b * b + a * a by omega] at h3
    obtain ⟨s, c, l, p1, p2, p3, p4, p5, p6, p7, p8⟩ := H fc fs lx h2 h1 h3
    exact ⟨c, s, l, p2, p1, p3, p5, p4, p6, p8, p7⟩

/-! ### how far a product is off -/
theorem tenk_num : (115292150460684 : Rat) * 64 ≤ ((7378697629483821 : Nat) : Rat) := by decide +kernel
theorem pw_m6 : pw (-6) * 64 = 1 := by
  have := pw_neg_mul 6
  rw [show pw 6 = 64 by rw [show (6 : Int) = ((6 : Nat) : Int) from rfl, pw_nat]; rfl] at this
  exact this
theorem tenk_ev : ev .f64 4547007122018943789 * W = ((7378697629483821 : Nat) : Rat) * pw (-6) := by
  rw [ev_lit (k := .f64) (x := 4547007122018943789) false 1008 7378697629483821 (by decide) (by decide) (by decide) (by decide)]
  have hW : W = pw 60 := by
    rw [show (60 : Int) = ((60 : Nat) : Int) from rfl, pw_nat]; rfl
  rw [hW]
  simp only [sgd, cond_false]
  rw [Rat.mul_assoc, ← pw_add]
  congr 2
theorem tenk_ge : (115292150460684 : Rat) ≤ ev .f64 4547007122018943789 * W := by
  rw [tenk_ev]
  have h64 := tenk_num
  have := pw_m6
  generalize ((7378697629483821 : Nat) : Rat) = z at *
  have := Rat.mul_le_mul_of_nonneg_right h64 (Rat.le_of_lt (pw_pos (-6)))
  grind
theorem gap_ok {s y : Nat} {n m : Int} {e : Nat} (hs : Ap .f64 s n e) (hy : Ap .f64 y m 0) (h : (n - m).natAbs + e + 1024 ≤ 115292150460684) : fgt .f64 (gapN s y) 4547007122018943789 = false := by
  have hc : fin .f64 4547007122018943789 = true := by decide +kernel
  have t := tenk_ge
  have key : ∀ {w : Nat} {z : Int} {c : Nat}, Ap .f64 w z c → z + c ≤ 115292150460684 → fgt .f64 w 4547007122018943789 = false := by
    intro w z c hw hz
    rw [fgt_ev hw.nan (fin_nan hc), decide_eq_false]
    refine Rat.not_lt.2 ?_
    have h1 := hw.hi
    have hz := Rat.intCast_le_intCast.2 hz
    rw [Rat.intCast_add] at hz
    have t1 : ((c : Int) : Rat) = (c : Rat) := rfl
    have t2 : ((115292150460684 : Int) : Rat) = 115292150460684 := rfl
    rw [t1, t2] at hz
    exact Rat.le_of_mul_le_mul_right (c := W) (by grind) W_pos
  unfold gapN
  cases flt .f64 s y
  · exact key (hs.sub hy (by omega)) (by omega)
  · exact key (hy.sub hs (by omega)) (by omega)
theorem hw1 : 5319755814912 * 6917529027641081856 + 549755815297 * 1164450719652915445 + 5319755814912 * 549755815297 + 1152921504606846976 ≤ 32480000000000 * 1152921504606846976 := by decide
theorem side_ok {o lw y s l m : Nat} {neg : Bool} {sx : Nat} (ho : Ap .f64 o s 4770000001024) (hsx : sx = bif neg then fneg .f64 o else o) (hs : s ≤ 1164450719652915445) (hl : l ≤ 6917529027641081856) (hw : Ap .f64 lw l 549755815297)
    (hy : Ap .f64 y (bif neg then -(m : Int) else (m : Int)) 0) (hm : m ≤ 4611686018427387904) (hn : near2 (s * l / 1152921504606846976) m 57646075230342 = true) :
    ovf sx = false ∧ fgt .f64 (gapN (fmul .f64 (widen (narrow sx)) lw) y) 4547007122018943789 = false := by
  rw [near2_iff] at hn
  have hsl : s * l ≤ 1164450719652915445 * 6917529027641081856 := Nat.mul_le_mul hs hl
  have hq : s * l / 1152921504606846976 ≤ 6986704317917492670 := Nat.div_le_of_le_mul (Nat.le_trans hsl (by decide))
  cases neg
  · simp only [cond_false] at hsx hy
    subst hsx
    obtain ⟨A, hov⟩ := ho.narrow' (by omega)
    refine ⟨hov, ?_⟩
    have B := (A.widen.le (c := 5319755814912) (by decide)).mul hw 1164450719652915445 6917529027641081856 32480000000000 (by omega) (by omega) hw1
    rw [show ((s : Int) * (l : Int) / 1152921504606846976) = ((s * l / 1152921504606846976 : Nat) : Int) from (Int.natCast_ediv _ _).symm] at B
    generalize s * l / 1152921504606846976 = q at *
    exact gap_ok (B (room rfl (by omega))) hy (by omega)
  · simp only [cond_true] at hsx hy
    subst hsx
    obtain ⟨A, hov⟩ := ho.neg.narrow' (by omega)
    refine ⟨hov, ?_⟩
    have B := (A.widen.le (c := 5319755814912) (by decide)).mul hw 1164450719652915445 6917529027641081856 32480000000000 (by omega) (by omega) hw1
    have e : ((-(s : Int)) * (l : Int) / 1152921504606846976) + ((s * l / 1152921504606846976 : Nat) : Int) = 0 ∨ ((-(s : Int)) * (l : Int) / 1152921504606846976) + ((s * l / 1152921504606846976 : Nat) : Int) = -1 := by
      rw [Int.neg_mul, show (s : Int) * (l : Int) = ((s * l : Nat) : Int) from (Int.natCast_mul _ _).symm]
      omega
    generalize (-(s : Int)) * (l : Int) / 1152921504606846976 = z at *
    generalize s * l / 1152921504606846976 = q at *
    exact gap_ok (B (by omega)) hy (by omega)

/-- The opposite angle. -/
theorem feq_neg {g : Nat} (hg : fin .f64 g = true) (hl : g < 2 * signOf .f64) (h1 : ovf g = false) (hf : fin .f32 (narrow g) = true) (hf2 : fin .f32 (narrow (fneg .f64 g)) = true) :
    feq .f32 (narrow g) (fneg .f32 (narrow (fneg .f64 g))) = true ∧ feq .f32 (narrow (fneg .f64 g)) (fneg .f32 (narrow g)) = true := by
  have hx : Ex .f64 g (ev .f64 g) := ⟨hg, hl, rfl⟩
  have n1 := narrow_rnd hx
  have n2 := narrow_rnd hx.neg
  have e := narrow_neg hx
  have a1 : Ex .f32 (narrow g) (ev .f32 (narrow g)) := ⟨hf, n1.lt2, rfl⟩
  have a2 : Ex .f32 (narrow (fneg .f64 g)) (ev .f32 (narrow (fneg .f64 g))) := ⟨hf2, n2.lt2, rfl⟩
  constructor
  · rw [a1.feq a2.neg, decide_eq_true]; rw [e, Rat.neg_neg]
  · rw [a2.feq a1.neg, decide_eq_true]; exact e

/-! ### one point -/
def sinOk (z : Nat) : Bool := fin .f32 z && (flt .f64 (abs64 (widen z)) 4607182418800017408 && !ovf (sine64 z))
theorem sinOk_of {z : Nat} {n : Int} {e : Nat} (h : Ap .f32 z n e) (hb : n.natAbs + e < 1152921504606846976) (ho : ovf (sine64 z) = false) : sinOk z = true := by
  unfold sinOk
  rw [h.f, (abs_ap h.widen).flt_t ap_one (by omega), ho]
  rfl
structure PtLaw (y x lx : Nat) : Prop where
  o1 : ovf (ang64 y x) = false
  o2 : ovf (ang64 (fneg .f32 y) x) = false
  ge : fge .f32 (angleN y x) 3204448256 = true
  gt : fgt .f32 (angleN y x) 1056964608 = false
  ok : sinOk (angleN y x) = true
  okc : sinOk (fadd .f32 (angleN y x) 1048576000) = true
  s : fgt .f64 (gapN (fmul .f64 (widen (sineN (angleN y x))) (widen (rootN lx))) (widen y)) 4547007122018943789 = false
  c : fgt .f64 (gapN (fmul .f64 (widen (sineN (fadd .f32 (angleN y x) 1048576000))) (widen (rootN lx))) (widen x)) 4547007122018943789 = false
  n : feq .f32 y 0 = true ∨ feq .f32 (angleN y x) (fneg .f32 (angleN (fneg .f32 y) x)) = true
theorem abs_neg {y : Nat} {J : Int} (hy : Ap .f32 y J 0) (h0 : J ≠ 0) : abs64 (widen (fneg .f32 y)) = abs64 (widen y) := by
  have h1 := abs_ap hy.neg.widen
  have h2 := abs_ap hy.widen
  rw [show (-J).natAbs = J.natAbs by omega] at h1
  have ev_of : ∀ {w : Nat}, Ap .f64 w ((J.natAbs : Nat) : Int) 0 → ev .f64 w * W = (((J.natAbs : Nat) : Int) : Rat) := by
    intro w hw
    have a := hw.lo
    have b' := hw.hi
    have z : ((0 : Nat) : Rat) = 0 := rfl
    rw [z] at a b'
    grind
  have e1 := ev_of h1
  have e2 := ev_of h2
  have hW : W ≠ 0 := by have := W_pos; grind
  have he : ev .f64 (abs64 (widen (fneg .f32 y))) = ev .f64 (abs64 (widen y)) := by
    have : ev .f64 (abs64 (widen (fneg .f32 y))) * W * W⁻¹ = ev .f64 (abs64 (widen y)) * W * W⁻¹ := by rw [e1, e2]
    rwa [Rat.mul_assoc, Rat.mul_assoc, Rat.mul_inv_cancel _ hW, Rat.mul_one, Rat.mul_one] at this
  refine ev_inj h1.l h2.l he fun hc => ?_
  rw [hc, Rat.zero_mul] at e1
  have : (((J.natAbs : Nat) : Int) : Rat) = ((0 : Int) : Rat) := e1.symm
  have := Rat.intCast_inj.1 this
  omega
theorem m_all {j : Int} (hj : j ≠ 0) (hj2 : j.natAbs ≤ 64) : ∃ M : Nat, M = j.natAbs * 72057594037927936 ∧ M ≤ 4611686018427387904 ∧ 1 ≤ M ∧ (j * 72057594037927936 = (M : Int) ∨ j * 72057594037927936 = -(M : Int)) := ⟨_, rfl, by omega, by omega, by omega⟩
theorem m_ne {j : Int} (hj : j ≠ 0) : j * 72057594037927936 ≠ 0 := by omega
theorem pt_law {x y lx : Nat} {i j : Int} (hx : Ap .f32 x (i * 72057594037927936) 0) (hy : Ap .f32 y (j * 72057594037927936) 0) (hi : i ≠ 0) (hj : j ≠ 0) (hi2 : i.natAbs ≤ 64) (hj2 : j.natAbs ≤ 64)
    (hl : Ap .f32 lx (((i.natAbs * i.natAbs + j.natAbs * j.natAbs) * 4503599627370496 : Nat) : Int) 0) : PtLaw y x lx := by
  obtain ⟨r, r1, r2, G, H⟩ := angW_ap hx hy hi hj hi2 hj2
  have H := fun fs fc h1 h2 => H fs fc (widen lx) h1 h2 hl.widen
  have hneg : angW (fneg .f32 y) x = angW y x := by
    unfold angW
    rw [abs_neg hy (m_ne hj)]
  obtain ⟨M, eM, M1, M3, M2⟩ := m_all hj hj2
  obtain ⟨N, eN, N1, N3, N2⟩ := m_all hi hi2
  rw [← eM, ← eN] at H
  clear eM eN
  generalize j * 72057594037927936 = J at *
  generalize i * 72057594037927936 = I at *
  clear hl hi hj hi2 hj2
  have hyn := hy.neg
  rcases M2 with rfl | rfl <;> rcases N2 with rfl | rfl
  · have e1 : ang64 y x = angW y x := by rw [ang64_eq]; dsimp only; rw [hx.flt_f ap32_zero (by omega), hy.flt_f ap32_zero (by omega)]; rfl
    have e2 : ang64 (fneg .f32 y) x = fneg .f64 (angW y x) := by rw [ang64_eq, hneg]; dsimp only; rw [hx.flt_f ap32_zero (by omega), hyn.flt_t ap32_zero (by omega)]; rfl
    obtain ⟨A, oA⟩ := G.narrow (by omega)
    obtain ⟨Bn, oB⟩ := G.neg.narrow (by omega)
    have C := A.add32 ap32_quarter (by omega)
    obtain ⟨fs, es, Fs⟩ := red1 A.widen r1 r2 (by decide)
    obtain ⟨fc, ec, Fc⟩ := red2 (C.widen.to (m := 576460752303423488 - ((288230376151711744 - r : Nat) : Int)) (c := 137438970896) (by omega)) (by omega) (by omega) (by decide)
    obtain ⟨s, c, l, p1, p2, p3, p4, p5, p6, p7, p8⟩ := H fs fc Fs Fc
    have L := (p6.narrow' (by omega)).1.widen
    obtain ⟨os, ks⟩ := side_ok (neg := false) p4 es p1 p3 L hy.widen M1 p7
    obtain ⟨oc, kc⟩ := side_ok (neg := false) p5 ec p2 p3 L hx.widen N1 p8
    have ea : angleN y x = narrow (angW y x) := by unfold angleN; rw [e1]
    exact ⟨by rw [e1]; exact oA, by rw [e2]; exact oB, by rw [ea]; exact A.fge_t ap32_nhalf (by omega), by rw [ea]; exact A.fgt_f ap32_half (by omega), by rw [ea]; exact sinOk_of A (by omega) os, by rw [ea]; exact sinOk_of C (by omega) oc, by rw [ea]; exact ks, by rw [ea]; exact kc, .inr (by rw [ea, show angleN (fneg .f32 y) x = _ from congrArg narrow e2]; exact (feq_neg G.f G.l oA A.f Bn.f).1)⟩
  · have e1 : ang64 y x = fsub .f64 4602678819172646912 (angW y x) := by rw [ang64_eq]; dsimp only; rw [hx.flt_t ap32_zero (by omega), hy.flt_f ap32_zero (by omega)]; rfl
    have e2 : ang64 (fneg .f32 y) x = fneg .f64 (fsub .f64 4602678819172646912 (angW y x)) := by rw [ang64_eq, hneg]; dsimp only; rw [hx.flt_t ap32_zero (by omega), hyn.flt_t ap32_zero (by omega)]; rfl
    have G2 := ap_half.sub G (by omega)
    obtain ⟨A, oA⟩ := G2.narrow (by omega)
    obtain ⟨Bn, oB⟩ := G2.neg.narrow (by omega)
    have C := A.add32 ap32_quarter (by omega)
    obtain ⟨fs, es, Fs⟩ := red2 A.widen r1 r2 (by decide)
    obtain ⟨fc, ec, Fc⟩ := red5 (C.widen.to (m := ((288230376151711744 - r : Nat) : Int) + 576460752303423488) (c := 137438971920) (by omega)) (by omega) (by omega) (by decide)
    obtain ⟨s, c, l, p1, p2, p3, p4, p5, p6, p7, p8⟩ := H fs fc Fs Fc
    have L := (p6.narrow' (by omega)).1.widen
    obtain ⟨os, ks⟩ := side_ok (neg := false) p4 es p1 p3 L hy.widen M1 p7
    obtain ⟨oc, kc⟩ := side_ok (neg := true) p5 ec p2 p3 L hx.widen N1 p8
    have ea : angleN y x = narrow (fsub .f64 4602678819172646912 (angW y x)) := by unfold angleN; rw [e1]
    exact ⟨by rw [e1]; exact oA, by rw [e2]; exact oB, by rw [ea]; exact A.fge_t ap32_nhalf (by omega), by rw [ea]; exact A.fgt_f ap32_half (by omega), by rw [ea]; exact sinOk_of A (by omega) os, by rw [ea]; exact sinOk_of C (by omega) oc, by rw [ea]; exact ks, by rw [ea]; exact kc, .inr (by rw [ea, show angleN (fneg .f32 y) x = _ from congrArg narrow e2]; exact (feq_neg G2.f G2.l oA A.f Bn.f).1)⟩
  · have e1 : ang64 y x = fneg .f64 (angW y x) := by rw [ang64_eq]; dsimp only; rw [hx.flt_f ap32_zero (by omega), hy.flt_t ap32_zero (by omega)]; rfl
    have e2 : ang64 (fneg .f32 y) x = angW y x := by rw [ang64_eq, hneg]; dsimp only; rw [hx.flt_f ap32_zero (by omega), hyn.flt_f ap32_zero (by omega)]; rfl
    obtain ⟨A, oA⟩ := G.neg.narrow (by omega)
    obtain ⟨Bn, oB⟩ := G.narrow (by omega)
    have C := A.add32 ap32_quarter (by omega)
    obtain ⟨fs, es, Fs⟩ := red3 A.widen r1 r2 (by decide)
    obtain ⟨fc, ec, Fc⟩ := red1 (C.widen.to (m := ((288230376151711744 - r : Nat) : Int)) (c := 137438970896) (by omega)) (by omega) (by omega) (by decide)
    obtain ⟨s, c, l, p1, p2, p3, p4, p5, p6, p7, p8⟩ := H fs fc Fs Fc
    have L := (p6.narrow' (by omega)).1.widen
    obtain ⟨os, ks⟩ := side_ok (neg := true) p4 es p1 p3 L hy.widen M1 p7
    obtain ⟨oc, kc⟩ := side_ok (neg := false) p5 ec p2 p3 L hx.widen N1 p8
    have ea : angleN y x = narrow (fneg .f64 (angW y x)) := by unfold angleN; rw [e1]
    exact ⟨by rw [e1]; exact oA, by rw [e2]; exact oB, by rw [ea]; exact A.fge_t ap32_nhalf (by omega), by rw [ea]; exact A.fgt_f ap32_half (by omega), by rw [ea]; exact sinOk_of A (by omega) os, by rw [ea]; exact sinOk_of C (by omega) oc, by rw [ea]; exact ks, by rw [ea]; exact kc, .inr (by rw [ea, show angleN (fneg .f32 y) x = _ from congrArg narrow e2]; exact (feq_neg G.f G.l oB Bn.f A.f).2)⟩
  · have e1 : ang64 y x = fneg .f64 (fsub .f64 4602678819172646912 (angW y x)) := by rw [ang64_eq]; dsimp only; rw [hx.flt_t ap32_zero (by omega), hy.flt_t ap32_zero (by omega)]; rfl
    have e2 : ang64 (fneg .f32 y) x = fsub .f64 4602678819172646912 (angW y x) := by rw [ang64_eq, hneg]; dsimp only; rw [hx.flt_t ap32_zero (by omega), hyn.flt_f ap32_zero (by omega)]; rfl
    have G2 := ap_half.sub G (by omega)
    obtain ⟨A, oA⟩ := G2.neg.narrow (by omega)
    obtain ⟨Bn, oB⟩ := G2.narrow (by omega)
    have C := A.add32 ap32_quarter (by omega)
    obtain ⟨fs, es, Fs⟩ := red4 (A.widen.to (m := (r : Int) - 576460752303423488) (c := 68719495184) (by omega)) r1 r2 (by decide)
    obtain ⟨fc, ec, Fc⟩ := red3 (C.widen.to (m := -((288230376151711744 - r : Nat) : Int)) (c := 137438971920) (by omega)) (by omega) (by omega) (by decide)
    obtain ⟨s, c, l, p1, p2, p3, p4, p5, p6, p7, p8⟩ := H fs fc Fs Fc
    have L := (p6.narrow' (by omega)).1.widen
    obtain ⟨os, ks⟩ := side_ok (neg := true) p4 es p1 p3 L hy.widen M1 p7
    obtain ⟨oc, kc⟩ := side_ok (neg := true) p5 ec p2 p3 L hx.widen N1 p8
    have ea : angleN y x = narrow (fneg .f64 (fsub .f64 4602678819172646912 (angW y x))) := by unfold angleN; rw [e1]
    exact ⟨by rw [e1]; exact oA, by rw [e2]; exact oB, by rw [ea]; exact A.fge_t ap32_nhalf (by omega), by rw [ea]; exact A.fgt_f ap32_half (by omega), by rw [ea]; exact sinOk_of A (by omega) os, by rw [ea]; exact sinOk_of C (by omega) oc, by rw [ea]; exact ks, by rw [ea]; exact kc, .inr (by rw [ea, show angleN (fneg .f32 y) x = _ from congrArg narrow e2]; exact (feq_neg G2.f G2.l oB Bn.f A.f).2)⟩
end Fl
end Go.Ev
