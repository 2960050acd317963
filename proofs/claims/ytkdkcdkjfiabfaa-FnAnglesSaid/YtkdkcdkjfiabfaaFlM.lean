/- Angles and sines of floats, held against numbers in units of 2^-60. -/
import Derived.Test.YtkdkcdkjfiabfaaFlL
set_option linter.unusedVariables false
set_option linter.unusedSimpArgs false
set_option maxRecDepth 20000
namespace Go.Ev
open Ieee
namespace Fl

/-! ### the floats -/
def angT (t : Nat) : Nat := fdiv .f64 t (fadd .f64 4607182418800017408 (fsqrt .f64 (fadd .f64 4607182418800017408 (fmul .f64 t t))))
def angTs (t : Nat) : Nat → Nat
  | 0 => t
  | n + 1 => angT (angTs t n)
def angP (u : Nat) : Nat → Nat
  | 0 => 0
  | n + 1 => fsub .f64 (fdiv .f64 4607182418800017408 (FloatKind.f64.nearest (15 - 2 * (n : Int)))) (fmul .f64 u (angP u n))
def angG (t : Nat) : Nat := fdiv .f64 (fmul .f64 4620693217682128896 (fmul .f64 t (angP (fmul .f64 t t) 8))) 4618760256179416344
def sinP (u : Nat) : Nat → Nat
  | 0 => 4607182418800017408
  | n + 1 => fsub .f64 4607182418800017408 (fdiv .f64 (fmul .f64 u (sinP u n)) (FloatKind.f64.nearest (2 * (8 - (n : Int)) * (2 * (8 - (n : Int)) + 1))))
def sinO (f : Nat) : Nat := fmul .f64 (fmul .f64 f 4618760256179416344) (sinP (fmul .f64 (fmul .f64 f 4618760256179416344) (fmul .f64 f 4618760256179416344)) 8)

/-! ### the numbers -/
def st {α : Type} (n : Nat) (f : Nat → α) : α := Nat.rec (f 0) (fun k _ => f (Nat.succ k)) n
theorem st_eq {α : Type} (n : Nat) (f : Nat → α) : st n f = f n := by cases n <;> rfl
abbrev WN : Nat := 1152921504606846976
def newton (v : Nat) : Nat → Nat → Nat
  | 0, s => s
  | n + 1, s => newton v n (st ((s + v / s) / 2) id)
def near2 (a b c : Nat) : Bool := Nat.ble a (b + c) && Nat.ble b (a + c)
def angStep (t : Nat) (k : Nat → Bool) : Bool :=
  st (t * t / 1152921504606846976) fun u =>
  st (newton ((1152921504606846976 + u) * 1152921504606846976) 5 (1152921504606846976 + u * 2 / 5)) fun s =>
  Nat.ble 1152921504606846976 s && (Nat.ble s 2305843009213693952 && (near2 (s * s) ((1152921504606846976 + u) * 1152921504606846976) 4611686018427387904 &&
  st (t * 1152921504606846976 / (1152921504606846976 + s)) k))
def angPoly (u : Nat) (k : Nat → Bool) : Nat → Nat → Bool
  | 0, p => k p
  | n + 1, p => st (u * p / 1152921504606846976) fun q => st (1152921504606846976 / (2 * n + 1)) fun d => Nat.ble q d && (Nat.ble (d - q) 1383505805528216371 && st (d - q) fun p' => angPoly u k n p')
def sinPoly (u : Nat) (k : Nat → Bool) : Nat → Nat → Bool
  | 0, p => k p
  | n + 1, p => st (u * p / 1152921504606846976 / (2 * (n + 1) * (2 * (n + 1) + 1))) fun q => Nat.ble q 1152921504606846976 && st (1152921504606846976 - q) fun p' => sinPoly u k n p'
def sinN (f : Nat) (k : Nat → Bool) : Bool :=
  Nat.ble f 288230376151711744 && st (f * 7244019458077122560 / 1152921504606846976) fun z => st (z * z / 1152921504606846976) fun u =>
  Nat.ble z 1821615977278818000 && (Nat.ble u 2882303761517117440 && sinPoly u (fun p => st (z * p / 1152921504606846976) fun o => Nat.ble o 1164450719652915445 && k o) 8 1152921504606846976)
def rootL (n : Nat) (k : Nat → Bool) : Bool :=
  st (newton (n * 1329227995784915872903807060280344576) 7 (1152921504606846976 <<< ((Nat.log2 n + 1) / 2))) fun s => st (s / 16) fun l =>
  Nat.ble 96076792050570581 l && (Nat.ble l 6917529027641081856 && (near2 (l * l) (n * 5192296858534827628530496329220096) 36893488147419103232 && k l))
def chkN (a b : Nat) : Bool :=
  st (b * 1152921504606846976 / a) fun t => angStep t fun t => angStep t fun t => angStep t fun t =>
  Nat.ble t 144115188075855872 && st (t * t / 1152921504606846976) fun u => angPoly u (fun p =>
  st (8 * (t * p / 1152921504606846976) * 1152921504606846976 / 7244019458077122560) fun g =>
  Nat.ble 2305843009213693 g && (Nat.ble g 146421031085069565 && sinN g fun s => sinN (288230376151711744 - g) fun c => rootL (a * a + b * b) fun l =>
  near2 (s * l / 1152921504606846976) (b * 72057594037927936) 57646075230342 && near2 (c * l / 1152921504606846976) (a * 72057594037927936) 57646075230342)) 8 0

/-! ### the steps -/
theorem ap_lit {x : Nat} (p j sh : Nat) (n : Int) (hj : j ≤ 2 * FloatKind.f64.format.binade) (h : p = 0 ∨ FloatKind.f64.format.binade ≤ j) (hx : x = p * FloatKind.f64.format.binade + j) (hr : x < infOf .f64) (he : p = 1014 + sh) (hn : n = ((j * 2 ^ sh : Nat) : Int)) : Ap .f64 x n 0 := by
  have hw : x = FloatKind.f64.format.word false (p * FloatKind.f64.format.binade + j) := hx
  have e := ev_lit false p j hj h hw (by rw [← hx]; omega)
  have hi : infOf .f64 < signOf .f64 := by decide
  have hex : Ex .f64 x ((j : Rat) * pw (FloatKind.f64.format.leastPlace + p)) := ⟨by rw [fin_iff]; unfold rung; rw [Nat.mod_eq_of_lt (by omega)]; exact hr, by omega, e⟩
  refine Ap.exact hex ?_
  have hW : W = pw 60 := by
    rw [show (60 : Int) = ((60 : Nat) : Int) from rfl, pw_nat]; rfl
  have hl : FloatKind.f64.format.leastPlace = -1074 := rfl
  rw [hW, Rat.mul_assoc, ← pw_add, hl, show (-1074 : Int) + (p : Int) + 60 = ((sh : Nat) : Int) by omega, pw_nat, hn, ← Rat.natCast_mul]
  rfl
theorem ap_one : Ap .f64 4607182418800017408 1152921504606846976 0 := ap_lit 1022 4503599627370496 8 _ (by decide) (by decide) (by decide) (by decide) (by decide) (by decide)
theorem ap_quarter : Ap .f64 4598175219545276416 288230376151711744 0 := ap_lit 1020 4503599627370496 6 _ (by decide) (by decide) (by decide) (by decide) (by decide) (by decide)
theorem ap_half : Ap .f64 4602678819172646912 576460752303423488 0 := ap_lit 1021 4503599627370496 7 _ (by decide) (by decide) (by decide) (by decide) (by decide) (by decide)
theorem ap_eight : Ap .f64 4620693217682128896 9223372036854775808 0 := ap_lit 1025 4503599627370496 11 _ (by decide) (by decide) (by decide) (by decide) (by decide) (by decide)
theorem ap_turn : Ap .f64 4618760256179416344 7244019458077122560 0 := ap_lit 1024 7074237752028440 10 _ (by decide) (by decide) (by decide) (by decide) (by decide) (by decide)
theorem ap_zero : Ap .f64 0 0 0 := Ap.exact (q := 0) ⟨by decide, by decide, (ev_zero (by decide)).2 (.inl rfl)⟩ (by rw [Rat.zero_mul]; rfl)
theorem ap_int {n : Int} (h : n.natAbs ≤ 9007199254740992) : Ap .f64 (FloatKind.f64.nearest n) (n * 1152921504606846976) 0 :=
  Ap.exact (ex_int64 h) (by rw [Rat.intCast_mul]; rfl)

theorem room {z : Int} {u c : Nat} (h : z = (u : Int)) (hb : u + c < 9223372036854775808) : z.natAbs + c < 9223372036854775808 := by
  rw [h, Int.natAbs_natCast]; exact hb
theorem near2_iff {a b c : Nat} : near2 a b c = true ↔ a ≤ b + c ∧ b ≤ a + c := by
  unfold near2
  rw [Bool.and_eq_true, Nat.ble_eq, Nat.ble_eq]
theorem hc1 {e : Nat} (hee : e * e ≤ 64000000) : e * 1152921504606846976 + e * 1152921504606846976 + e * e + 1152921504606846976 ≤ (2 * e + 2) * 1152921504606846976 := by omega
theorem hc2 (e : Nat) : (4 + (0 + (2 * e + 2 + 1024) + 1024)) * 1152921504606846976 ≤ (2 * e + 2054) * 1152921504606846976 := by omega
theorem hc3 {e : Nat} (he : e ≤ 8000) : 1152921504606846976 * (e * 2305843009212645376 + 1152921504606846976 * (0 + (2 * e + 2054 + 1024) + 1024)) + 2305843009212645376 * 2305843009212645376 ≤ (e + 1030) * (2305843009212645376 * 2305843009212645376) := by omega
theorem angStep_ap {t e : Nat} {k : Nat → Bool} (h : angStep t k = true) (ht : t ≤ 1152921504606846976) {x : Nat} (hx : Ap .f64 x t e) (he : e ≤ 8000) :
    ∃ t', k t' = true ∧ t' ≤ 1152921504606846976 ∧ Ap .f64 (angT x) t' (e + 2100) := by
  unfold angStep at h
  simp only [st_eq] at h
  generalize hu : t * t / 1152921504606846976 = u at h
  generalize newton ((1152921504606846976 + u) * 1152921504606846976) 5 (1152921504606846976 + u * 2 / 5) = s at h
  simp only [Bool.and_eq_true, Nat.ble_eq, near2_iff] at h
  obtain ⟨h1, h2, ⟨h3, h4⟩, h5⟩ := h
  have htt : t * t ≤ 1152921504606846976 * 1152921504606846976 := Nat.mul_le_mul ht ht
  have hu1 : u ≤ 1152921504606846976 := by omega
  have hee : e * e ≤ 8000 * 8000 := Nat.mul_le_mul he he
  have huI : ((t : Int) * t / 1152921504606846976) = (u : Int) := by rw [← hu]; exact (Int.natCast_ediv _ _).symm
  have A1 := hx.mul hx 1152921504606846976 1152921504606846976 (2 * e + 2) (by omega) (by omega) (hc1 hee) (room huI (by omega))
  rw [huI] at A1
  have A2 := ap_one.add A1 (by omega)
  have A3 := A2.sqrt (by omega) (s : Int) 1152921504606846976 4 (2 * e + 2054) (by omega) (by omega) (by omega) (hc2 e) (room rfl (by omega))
  have A4 := ap_one.add A3 (by omega)
  have hq : t * 1152921504606846976 / (1152921504606846976 + s) ≤ t := by
    refine Nat.div_le_of_le_mul ?_
    have := Nat.mul_le_mul_left t (show 1152921504606846976 ≤ 1152921504606846976 + s by omega)
    rw [Nat.mul_comm (1152921504606846976 + s)]
    exact this
  have hqI : ((t : Int) * 1152921504606846976 / (1152921504606846976 + (s : Int))) = ((t * 1152921504606846976 / (1152921504606846976 + s) : Nat) : Int) := (Int.natCast_ediv _ _).symm
  generalize t * 1152921504606846976 / (1152921504606846976 + s) = r at *
  have A5 := hx.div A4 1152921504606846976 2305843009212645376 (e + 1030) (by omega) (by omega) (by omega) (hc3 he) (room hqI (by omega))
  rw [hqI] at A5
  exact ⟨r, h5, by omega, A5.le (by omega)⟩

theorem W_ne : (1152921504606846976 : Int) ≠ 0 := by decide
theorem subNat {a b' : Nat} (h : b' ≤ a) : (a : Int) - (b' : Int) = ((a - b' : Nat) : Int) := by omega
theorem hp1 : 4000 * 1383505805528216371 + 10000 * 18014398509481984 + 4000 * 10000 + 1152921504606846976 ≤ 4960 * 1152921504606846976 := by decide
theorem angPoly_ap {u : Nat} (hu : u ≤ 18014398509481984) {x : Nat} (hx : Ap .f64 x u 4000) {k : Nat → Bool} : ∀ n p, n ≤ 8 → angPoly u k n p = true → p ≤ 1383505805528216371 → Ap .f64 (angP x (8 - n)) p 10000 →
    ∃ p' : Nat, k p' = true ∧ p' ≤ 1383505805528216371 ∧ Ap .f64 (angP x 8) p' 10000
  | 0, p, _, h, hp, ap => ⟨p, h, hp, ap⟩
  | n + 1, p, hn, h, hp, ap => by
    unfold angPoly at h
    simp only [st_eq] at h
    simp only [Bool.and_eq_true, Nat.ble_eq] at h
    obtain ⟨h1, h2, h3⟩ := h
    have A1 := hx.mul ap 18014398509481984 1383505805528216371 4960 (by omega) (by omega) hp1
    have hq : ((u : Int) * (p : Int) / 1152921504606846976) = ((u * p / 1152921504606846976 : Nat) : Int) := (Int.natCast_ediv _ _).symm
    rw [hq] at A1
    have hup : u * p ≤ 18014398509481984 * 1383505805528216371 := Nat.mul_le_mul hu hp
    have hqb : u * p / 1152921504606846976 ≤ 1152921504606846976 := Nat.div_le_of_le_mul (Nat.le_trans hup (by decide))
    generalize u * p / 1152921504606846976 = q at *
    have A1 := A1 (room rfl (by omega))
    have B1 := ap_one.div (ap_int (n := 2 * (n : Int) + 1) (by omega)) 1152921504606846976 ((2 * n + 1) * 1152921504606846976) 1 (by omega) (by decide) (by omega) (by simp)
    have hd : ((1152921504606846976 : Int) * 1152921504606846976 / ((2 * (n : Int) + 1) * 1152921504606846976)) = ((1152921504606846976 / (2 * n + 1) : Nat) : Int) := by
      rw [Int.mul_ediv_mul_of_pos_left _ _ (by decide)]
      exact (Int.natCast_ediv 1152921504606846976 (2 * n + 1)).symm
    rw [hd] at B1
    have hdb : 1152921504606846976 / (2 * n + 1) ≤ 1152921504606846976 := Nat.div_le_self _ _
    generalize 1152921504606846976 / (2 * n + 1) = d at *
    have B1 := B1 (room rfl (by omega))
    have C1 := B1.sub A1 (by omega)
    rw [subNat h1] at C1
    refine angPoly_ap hu hx n (d - q) (by omega) h3 h2 ?_
    rw [show 8 - n = (8 - (n + 1)) + 1 by omega]
    show Ap .f64 (fsub .f64 (fdiv .f64 4607182418800017408 (FloatKind.f64.nearest (15 - 2 * ((8 - (n + 1) : Nat) : Int)))) (fmul .f64 x (angP x (8 - (n + 1))))) _ _
    rw [show (15 : Int) - 2 * ((8 - (n + 1) : Nat) : Int) = 2 * (n : Int) + 1 by omega]
    exact C1.le (by decide)

theorem hg1 : 8000 * 144115188075855872 + 8000 * 144115188075855872 + 8000 * 8000 + 1152921504606846976 ≤ 2002 * 1152921504606846976 := by decide
theorem hg2 : 8000 * 1383505805528216371 + 10000 * 144115188075855872 + 8000 * 10000 + 1152921504606846976 ≤ 10860 * 1152921504606846976 := by decide
theorem hg3 : 0 * 1152921504606846976 + (10860 + 1024) * 9223372036854775808 + 0 * (10860 + 1024) + 1152921504606846976 ≤ 95080 * 1152921504606846976 := by decide
theorem hg4 : 1152921504606846976 * ((95080 + 1024) * 7244019458077122560 + 2305843009213693952 * 0) + 7244019458077122560 * 7244019458077122560 ≤ 15300 * (7244019458077122560 * 7244019458077122560) := by decide
theorem angG_ap {t : Nat} {k : Nat → Bool} (h : (Nat.ble t 144115188075855872 && st (t * t / 1152921504606846976) fun u => angPoly u (fun p => st (8 * (t * p / 1152921504606846976) * 1152921504606846976 / 7244019458077122560) k) 8 0) = true) {x : Nat} (hx : Ap .f64 x t 8000) :
    ∃ g : Nat, k g = true ∧ Ap .f64 (angG x) g 16400 := by
  simp only [st_eq, Bool.and_eq_true, Nat.ble_eq] at h
  obtain ⟨ht, h⟩ := h
  have htt : t * t ≤ 144115188075855872 * 144115188075855872 := Nat.mul_le_mul ht ht
  have hub : t * t / 1152921504606846976 ≤ 18014398509481984 := Nat.div_le_of_le_mul (Nat.le_trans htt (by decide))
  have huI : ((t : Int) * (t : Int) / 1152921504606846976) = ((t * t / 1152921504606846976 : Nat) : Int) := (Int.natCast_ediv _ _).symm
  have A1 := hx.mul hx 144115188075855872 144115188075855872 2002 (by omega) (by omega) hg1
  rw [huI] at A1
  have A1 := A1 (room rfl (by omega))
  obtain ⟨p, h2, hp, ap⟩ := angPoly_ap hub (A1.le (by decide)) 8 0 (by decide) h (by decide) (ap_zero.le (by decide))
  have hq : ((t : Int) * (p : Int) / 1152921504606846976) = ((t * p / 1152921504606846976 : Nat) : Int) := (Int.natCast_ediv _ _).symm
  have htp : t * p ≤ 144115188075855872 * 1383505805528216371 := Nat.mul_le_mul ht hp
  have hqb : t * p / 1152921504606846976 ≤ 200000000000000000 := Nat.div_le_of_le_mul (Nat.le_trans htp (by decide))
  have A2 := hx.mul ap 144115188075855872 1383505805528216371 10860 (by omega) (by omega) hg2
  rw [hq] at A2
  generalize t * p / 1152921504606846976 = q at *
  have A2 := A2 (room rfl (by omega))
  have h8 : ((9223372036854775808 : Int) * (q : Int) / 1152921504606846976) = ((8 * q : Nat) : Int) := by omega
  have A3 := ap_eight.mul A2 9223372036854775808 1152921504606846976 95080 (by decide) (by omega) hg3
  rw [h8] at A3
  have A3 := A3 (room rfl (by omega))
  have A4 := A3.div ap_turn 2305843009213693952 7244019458077122560 15300 (by decide) (by omega) (by decide) hg4
  have h9 : (((8 * q : Nat) : Int) * 1152921504606846976 / 7244019458077122560) = ((8 * q * 1152921504606846976 / 7244019458077122560 : Nat) : Int) := (Int.natCast_ediv _ _).symm
  rw [h9] at A4
  have hb9 : 8 * q * 1152921504606846976 / 7244019458077122560 ≤ 8 * q := by omega
  generalize 8 * q * 1152921504606846976 / 7244019458077122560 = g at *
  exact ⟨g, h2, (A4 (room rfl (by omega))).le (by decide)⟩

theorem hs1 : 6322191859712 * 1152921504606846976 + 1924145348608 * 2882303761517117440 + 6322191859712 * 1924145348608 + 1152921504606846976 ≤ 11269994184704 * 1152921504606846976 := by decide
theorem hs2 {D L : Nat} (hD : 6 ≤ D) (hL : L = D * 1152921504606846976) : 1152921504606846976 * ((11269994184704 + 1024) * L + 3458764513820540928 * 0) + L * L ≤ 1881000000000 * (L * L) := by
  have h1 : 1152921504606846976 * (11269994184704 + 1024) ≤ 1880999999999 * L := by omega
  have h2 := Nat.mul_le_mul_right L h1
  have e1 : 1152921504606846976 * ((11269994184704 + 1024) * L + 3458764513820540928 * 0) = 1152921504606846976 * (11269994184704 + 1024) * L := by rw [Nat.mul_zero, Nat.add_zero, Nat.mul_assoc]
  rw [e1]
  have e2 : 1881000000000 * (L * L) = 1880999999999 * L * L + L * L := by
    rw [Nat.mul_assoc, show (1881000000000 : Nat) = 1880999999999 + 1 from rfl, Nat.add_mul, Nat.one_mul]
  rw [e2]
  omega
theorem sinPoly_ap {u : Nat} (hu : u ≤ 2882303761517117440) {x : Nat} (hx : Ap .f64 x u 6322191859712) {k : Nat → Bool} : ∀ n p, n ≤ 8 → sinPoly u k n p = true → p ≤ 1152921504606846976 → Ap .f64 (sinP x (8 - n)) p 1924145348608 →
    ∃ p' : Nat, k p' = true ∧ p' ≤ 1152921504606846976 ∧ Ap .f64 (sinP x 8) p' 1924145348608
  | 0, p, _, h, hp, ap => ⟨p, h, hp, ap⟩
  | n + 1, p, hn, h, hp, ap => by
    unfold sinPoly at h
    simp only [st_eq] at h
    simp only [Bool.and_eq_true, Nat.ble_eq] at h
    obtain ⟨h1, h3⟩ := h
    have A1 := hx.mul ap 2882303761517117440 1152921504606846976 11269994184704 (by omega) (by omega) hs1
    have hq : ((u : Int) * (p : Int) / 1152921504606846976) = ((u * p / 1152921504606846976 : Nat) : Int) := (Int.natCast_ediv _ _).symm
    rw [hq] at A1
    have hup : u * p ≤ 2882303761517117440 * 1152921504606846976 := Nat.mul_le_mul hu hp
    have hqb : u * p / 1152921504606846976 ≤ 2882303761517117440 := Nat.div_le_of_le_mul (Nat.le_trans hup (by decide))
    generalize u * p / 1152921504606846976 = q at *
    have A1 := A1 (room rfl (by omega))
    have hD : 6 ≤ 2 * (n + 1) * (2 * (n + 1) + 1) := by
      have := Nat.mul_le_mul (show 2 ≤ 2 * (n + 1) by omega) (show 3 ≤ 2 * (n + 1) + 1 by omega)
      omega
    have hD2 : 2 * (n + 1) * (2 * (n + 1) + 1) ≤ 272 := by
      have := Nat.mul_le_mul (show 2 * (n + 1) ≤ 16 by omega) (show 2 * (n + 1) + 1 ≤ 17 by omega)
      omega
    have hDI : 2 * ((n : Int) + 1) * (2 * ((n : Int) + 1) + 1) = ((2 * (n + 1) * (2 * (n + 1) + 1) : Nat) : Int) := by simp
    have B1 := A1.div (ap_int (n := 2 * ((n : Int) + 1) * (2 * ((n : Int) + 1) + 1)) (by rw [hDI]; omega)) 3458764513820540928
    generalize hDD : 2 * (n + 1) * (2 * (n + 1) + 1) = D at *
    rw [hDI] at B1
    have B1 := B1 (D * 1152921504606846976) 1881000000000 (by omega) (by omega) (by omega) (hs2 hD rfl)
    have hd : ((q : Int) * 1152921504606846976 / (((D : Nat) : Int) * 1152921504606846976)) = ((q / D : Nat) : Int) := by
      rw [Int.mul_ediv_mul_of_pos_left _ _ (by decide)]
      exact (Int.natCast_ediv q D).symm
    rw [hd] at B1
    have hdb : q / D ≤ q := Nat.div_le_self _ _
    generalize q / D = d at *
    have B1 := B1 (room rfl (by omega))
    have C1 := ap_one.sub B1 (by omega)
    have hsub : (1152921504606846976 : Int) - (d : Int) = ((1152921504606846976 - d : Nat) : Int) := by omega
    rw [hsub] at C1
    refine sinPoly_ap hu hx n (1152921504606846976 - d) (by omega) h3 (by omega) ?_
    rw [show 8 - n = (8 - (n + 1)) + 1 by omega]
    show Ap .f64 (fsub .f64 4607182418800017408 (fdiv .f64 (fmul .f64 x (sinP x (8 - (n + 1)))) (FloatKind.f64.nearest (2 * (8 - ((8 - (n + 1) : Nat) : Int)) * (2 * (8 - ((8 - (n + 1) : Nat) : Int)) + 1))))) _ _
    rw [show (8 : Int) - ((8 - (n + 1) : Nat) : Int) = (n : Int) + 1 by omega, hDI]
    exact C1.le (by decide)

theorem hn1 : 274877906944 * 7244019458077122560 + 0 * 288230376151711744 + 274877906944 * 0 + 1152921504606846976 ≤ 1727200000000 * 1152921504606846976 := by decide
theorem hn2 : 1727200001024 * 1821615977278818000 + 1727200001024 * 1821615977278818000 + 1727200001024 * 1727200001024 + 1152921504606846976 ≤ 5460000000000 * 1152921504606846976 := by decide
theorem hn3 : 1727200001024 * 1152921504606846976 + 1924145348608 * 1821615977278818000 + 1727200001024 * 1924145348608 + 1152921504606846976 ≤ 4770000000000 * 1152921504606846976 := by decide
theorem sinN_ap {f : Nat} {k : Nat → Bool} (h : sinN f k = true) {x : Nat} (hx : Ap .f64 x f 274877906944) : ∃ o : Nat, k o = true ∧ o ≤ 1164450719652915445 ∧ Ap .f64 (sinO x) o 4770000001024 := by
  unfold sinN at h
  simp only [st_eq, Bool.and_eq_true, Nat.ble_eq] at h
  obtain ⟨hf, hz, hu, h⟩ := h
  have hzI : ((f : Int) * 7244019458077122560 / 1152921504606846976) = ((f * 7244019458077122560 / 1152921504606846976 : Nat) : Int) := (Int.natCast_ediv _ _).symm
  have A1 := hx.mul ap_turn 288230376151711744 7244019458077122560 1727200000000 (by omega) (by decide) hn1
  rw [hzI] at A1
  generalize f * 7244019458077122560 / 1152921504606846976 = z at *
  have A1 := A1 (room rfl (by omega))
  have huI : ((z : Int) * z / 1152921504606846976) = ((z * z / 1152921504606846976 : Nat) : Int) := (Int.natCast_ediv _ _).symm
  have A2 := A1.mul A1 1821615977278818000 1821615977278818000 5460000000000 (by omega) (by omega) hn2
  rw [huI] at A2
  generalize z * z / 1152921504606846976 = u at *
  have A2 := A2 (room rfl (by omega))
  obtain ⟨p, h2, hp, ap⟩ := sinPoly_ap hu (A2.le (by decide)) 8 _ (by decide) h (by decide) (ap_one.le (by decide))
  simp only [Bool.and_eq_true, Nat.ble_eq] at h2
  obtain ⟨ho, h2⟩ := h2
  have hoI : ((z : Int) * p / 1152921504606846976) = ((z * p / 1152921504606846976 : Nat) : Int) := (Int.natCast_ediv _ _).symm
  have A3 := A1.mul ap 1821615977278818000 1152921504606846976 4770000000000 (by omega) (by omega) hn3
  rw [hoI] at A3
  generalize z * p / 1152921504606846976 = o at *
  exact ⟨o, h2, ho, A3 (room rfl (by omega))⟩
theorem rootL_ap {n : Nat} {k : Nat → Bool} (h : rootL n k = true) (hn : 1 ≤ n) (hn2 : n ≤ 8192) {x : Nat} (hx : Ap .f64 x ((n * 4503599627370496 : Nat) : Int) 0) : ∃ l : Nat, k l = true ∧ 96076792050570581 ≤ l ∧ l ≤ 6917529027641081856 ∧ Ap .f64 (fsqrt .f64 x) l 1409 := by
  unfold rootL at h
  simp only [st_eq, Bool.and_eq_true, Nat.ble_eq, near2_iff] at h
  obtain ⟨h1, h2, h3, h4⟩ := h
  generalize newton (n * 1329227995784915872903807060280344576) 7 (1152921504606846976 <<< ((Nat.log2 n + 1) / 2)) / 16 = l at *
  refine ⟨l, h4, h1, h2, hx.sqrt (by omega) (l : Int) 96076792050570581 32 385 (by omega) (by decide) ?_ (by decide) (by omega)⟩
  omega
end Fl
end Go.Ev
