/- Plain: boxes of quarters. -/
import Derived.Test.YtfdalaakechldaaBox
import Derived.Test.YtfdalaakechldaaFlH
set_option linter.unusedVariables false
set_option linter.unusedSimpArgs false
set_option maxRecDepth 100000
namespace Go.Proofs.Ytfdalaakechldaa
open Go.Ev Go.Ev.Fl

theorem q_fin {s b x : Nat} {q : Rat} (h : Q s b x q) : isFin x = true := h.x.f
theorem QV.fin {s b : Nat} {v : V3} {x y z : Rat} (h : QV s b v x y z) : fin3 v = true := by
  unfold fin3
  rw [q_fin h.x, q_fin h.y, q_fin h.z]
  rfl
theorem QV.le {s b c : Nat} {v : V3} {x y z : Rat} (h : QV s b v x y z) (hb : b ≤ c) : QV s c v x y z := ⟨h.x.le hb, h.y.le hb, h.z.le hb⟩
theorem QV.up {s b : Nat} {v : V3} {x y z : Rat} (h : QV s b v x y z) (t : Nat) : QV (s + t) (b * 2 ^ t) v x y z := ⟨h.x.up t, h.y.up t, h.z.up t⟩
/-- A box of exact numbers. -/
structure QB (s b : Nat) (B : V6) (l1 l2 l3 h1 h2 h3 : Rat) : Prop where
  l : QV s b B.1 l1 l2 l3
  h : QV s b B.2 h1 h2 h3
theorem QB.valid {s b : Nat} {B : V6} {l1 l2 l3 h1 h2 h3 : Rat} (h : QB s b B l1 l2 l3 h1 h2 h3) : validB B = (decide (l1 ≤ h1) && (decide (l2 ≤ h2) && decide (l3 ≤ h3))) := by
  unfold validB
  rw [h.l.fin, h.h.fin, h.l.x.x.fle h.h.x.x, h.l.y.x.fle h.h.y.x, h.l.z.x.fle h.h.z.x]
  rfl
theorem QB.isIn {s b t c : Nat} {B : V6} {l1 l2 l3 h1 h2 h3 : Rat} {p : V3} {x y z : Rat} (h : QB s b B l1 l2 l3 h1 h2 h3) (hp : QV t c p x y z) :
    inB B p = decide ((l1 ≤ x ∧ x ≤ h1) ∧ (l2 ≤ y ∧ y ≤ h2) ∧ (l3 ≤ z ∧ z ≤ h3)) := by
  unfold inB
  rw [h.valid, hp.x.x.fge h.l.x.x, hp.y.x.fge h.l.y.x, hp.z.x.fge h.l.z.x, hp.x.x.fle h.h.x.x, hp.y.x.fle h.h.y.x, hp.z.x.fle h.h.z.x]
  rw [Bool.eq_iff_iff]
  simp only [Bool.and_eq_true, decide_eq_true_eq]
  grind
/-! the drawn box -/
theorem q_pick {s : SrcD} (hb : bytes s.1) {n : Nat} (hn : 1 ≤ n) (hm : n ≤ 100) : ∃ k : Rat, Q 0 n (FloatKind.f32.nearest (pickV s n)) k ∧ 0 ≤ k ∧ k ≤ ((n - 1 : Nat) : Rat) := by
  have r := pickV_range (s := s) hb (n := (n : Int)) (by omega)
  refine ⟨((pickV s n : Int) : Rat), ?_, ?_, ?_⟩
  · exact ⟨ex_int32 (by omega), Gr.int _ (by omega)⟩
  · exact_mod_cast (Rat.intCast_le_intCast.2 r.1)
  · have : pickV s n ≤ ((n - 1 : Nat) : Int) := by omega
    have := Rat.intCast_le_intCast.2 this
    rwa [Rat.intCast_natCast] at this
theorem q_quart {s : SrcD} (hb : bytes s.1) : ∃ k : Rat, Q 2 8 (fdiv .f32 (FloatKind.f32.nearest (pickV s 9)) 1082130432) k ∧ 0 ≤ k ∧ k ≤ 2 := by
  have r := pickV_range (s := s) hb (n := 9) (by omega)
  refine ⟨_, q_div 2 1082130432 (n := pickV s 9) (b := 8) (by omega) (by omega) (by omega) (q_four.x.cast rfl), ?_, ?_⟩
  · have h0 : (0 : Rat) ≤ ((pickV s 9 : Int) : Rat) := Rat.intCast_le_intCast.2 r.1
    have e : (((2 ^ 2 : Nat) : Rat)) = 4 := rfl
    rw [e]
    grind
  · have h0 : ((pickV s 9 : Int) : Rat) ≤ ((8 : Int) : Rat) := Rat.intCast_le_intCast.2 (by omega)
    have e8 : ((8 : Int) : Rat) = 8 := rfl
    have e : (((2 ^ 2 : Nat) : Rat)) = 4 := rfl
    rw [e]
    grind
theorem bytes_S {s : SrcD} (n : Int) (hb : bytes s.1) : bytes (pickS s n).1 := by rw [pickS_1]; exact hb
theorem box_q {xs : List Int} (hb : bytes xs) : ∃ l1 l2 l3 k1 k2 k3 : Rat, QB 2 24 (bxV xs) l1 l2 l3 (l1 + k1) (l2 + k2) (l3 + k3) ∧ QV 2 16 (bxV xs).1 l1 l2 l3 ∧ (0 ≤ k1 ∧ k1 ≤ 2) ∧ (0 ≤ k2 ∧ k2 ≤ 2) ∧ (0 ≤ k3 ∧ k3 ≤ 2) := by
  have b0 : bytes (xs, (0 : Int), (0 : Int)).1 := hb
  have b1 := bytes_S 33 b0
  have b2 := bytes_S 33 b1
  have b3 := bytes_S 33 b2
  have b4 := bytes_S 9 b3
  have b5 := bytes_S 9 b4
  obtain ⟨l1, q1⟩ := q_small b0
  obtain ⟨l2, q2⟩ := q_small b1
  obtain ⟨l3, q3⟩ := q_small b2
  obtain ⟨k1, r1, s1⟩ := q_quart b3
  obtain ⟨k2, r2, s2⟩ := q_quart b4
  obtain ⟨k3, r3, s3⟩ := q_quart b5
  refine ⟨l1, l2, l3, k1, k2, k3, ⟨⟨q1.le (by decide), q2.le (by decide), q3.le (by decide)⟩, ⟨q1.add r1 (by decide) (by decide), q2.add r2 (by decide) (by decide), q3.add r3 (by decide) (by decide)⟩⟩, ⟨q1, q2, q3⟩, s1, s2, s3⟩
/-! a point in it -/
theorem q_sixteen : Q 0 16 1098907648 16 := (nearest_lit 16 (by decide) (by decide +kernel)).as rfl
theorem q_wi {s : SrcD} (hb : bytes s.1) {l h : Nat} {x k : Rat} (hl : Q 2 16 l x) (hh : Q 2 24 h (x + k)) (h0 : 0 ≤ k) : ∃ y, Q 6 936 (wiV s l h) y ∧ x ≤ y ∧ y ≤ x + k := by
  obtain ⟨n, hn, n0, n1⟩ := q_pick hb (n := 17) (by omega) (by omega)
  have d1 := (hh.sub hl (by decide) (by decide)).mul hn (by decide) (by decide)
  have e : (x + k - x) * n / 16 = k * n / 16 := by grind
  have g : Gr 6 680 ((x + k - x) * n / 16) := by
    obtain ⟨m, e1, e2⟩ := d1.g
    refine ⟨m, ?_, e2⟩
    have w1 : (((2 ^ (2 + 0) : Nat) : Rat)) = 4 := rfl
    have w2 : (((2 ^ 6 : Nat) : Rat)) = 64 := rfl
    rw [w1] at e1
    rw [w2, ← e1]
    grind
  have d2 : Q 6 680 (fdiv .f32 (fmul .f32 (fsub .f32 h l) (FloatKind.f32.nearest (pickV s 17))) 1098907648) ((x + k - x) * n / 16) := ⟨d1.x.div q_sixteen.x (by grind) (g.rep32 (by decide) (by decide)), g⟩
  refine ⟨_, ((hl.up 4).add d2 (by decide) (by decide)).le (by decide), ?_, ?_⟩
  · have := Rat.mul_nonneg h0 n0
    rw [e]
    grind
  · have n2 : n ≤ 16 := n1
    have := Rat.mul_nonneg h0 (show 0 ≤ 16 - n by grind)
    rw [e]
    grind
theorem in_q {ys : List Int} (hb : bytes ys) {B : V6} {l1 l2 l3 k1 k2 k3 : Rat} (hB : QB 2 24 B l1 l2 l3 (l1 + k1) (l2 + k2) (l3 + k3)) (hl : QV 2 16 B.1 l1 l2 l3) (h1 : 0 ≤ k1) (h2 : 0 ≤ k2) (h3 : 0 ≤ k3) :
    ∃ x y z, QV 6 936 (inV ys B) x y z ∧ (l1 ≤ x ∧ x ≤ l1 + k1) ∧ (l2 ≤ y ∧ y ≤ l2 + k2) ∧ (l3 ≤ z ∧ z ≤ l3 + k3) := by
  have b0 : bytes (ys, (0 : Int), (0 : Int)).1 := hb
  have b1 := bytes_S 17 b0
  have b2 := bytes_S 17 b1
  obtain ⟨x, q1, r1⟩ := q_wi b0 hl.x hB.h.x h1
  obtain ⟨y, q2, r2⟩ := q_wi b1 hl.y hB.h.y h2
  obtain ⟨z, q3, r3⟩ := q_wi b2 hl.z hB.h.z h3
  exact ⟨x, y, z, ⟨q1, q2, q3⟩, r1, r2, r3⟩
/-! halves -/
theorem axis_of (b : V6) : axisB b = 0 ∨ axisB b = 1 ∨ axisB b = 2 := by
  have st : ∀ a i, stepA b a i = i ∨ stepA b a i = a := fun a i => by
    unfold stepA
    cases fgt .f32 (fsub .f32 (crd b.2 i) (crd b.1 i)) (fsub .f32 (crd b.2 a) (crd b.1 a)) with
    | true => exact .inl rfl
    | false => exact .inr rfl
  unfold axisB
  rcases st (stepA b (stepA b 0 0) 1) 2 with e | e
  · exact .inr (.inr e)
  · rw [e]
    rcases st (stepA b 0 0) 1 with e | e
    · exact .inr (.inl e)
    · rw [e]
      rcases st 0 0 with e | e <;> exact .inl e
theorem q_mid {l h : Nat} {x k : Rat} (hl : Q 2 16 l x) (hh : Q 2 24 h (x + k)) (h0 : 0 ≤ k) : ∃ y, Q 3 72 (fadd .f32 l (fdiv .f32 (fsub .f32 h l) 1073741824)) y ∧ x ≤ y ∧ y ≤ x + k := by
  have d1 := hh.sub hl (by decide) (by decide)
  have g : Gr 3 40 ((x + k - x) / 2) := by
    obtain ⟨m, e1, e2⟩ := d1.g
    refine ⟨m, ?_, e2⟩
    have w1 : (((2 ^ 2 : Nat) : Rat)) = 4 := rfl
    have w2 : (((2 ^ 3 : Nat) : Rat)) = 8 := rfl
    rw [w1] at e1
    rw [w2, ← e1]
    grind
  have d2 : Q 3 40 (fdiv .f32 (fsub .f32 h l) 1073741824) ((x + k - x) / 2) := ⟨d1.x.div q_two.x (by grind) (g.rep32 (by decide) (by decide)), g⟩
  refine ⟨_, ((hl.up 1).add d2 (by decide) (by decide)).le (by decide), ?_, ?_⟩ <;> grind
/-- What both halves are for. -/
theorem halves {B : V6} {l1 l2 l3 k1 k2 k3 : Rat} (hB : QB 2 24 B l1 l2 l3 (l1 + k1) (l2 + k2) (l3 + k3)) (hl : QV 2 16 B.1 l1 l2 l3) (h1 : 0 ≤ k1) (h2 : 0 ≤ k2) (h3 : 0 ≤ k3) {p : V3} {x y z : Rat} {s b : Nat} (hp : QV s b p x y z) (r1 : l1 ≤ x ∧ x ≤ l1 + k1) (r2 : l2 ≤ y ∧ y ≤ l2 + k2) (r3 : l3 ≤ z ∧ z ≤ l3 + k3) :
    splOk B = true ∧ inB B p = true ∧ (inB (oneB B) p = false → inB (twoB B) p = true) ∧ inB B (oneB B).2 = true ∧ inB B (twoB B).1 = true ∧ inB (oneB B) B.1 = true ∧ inB (twoB B) B.2 = true := by
  have L := hl.up 1
  have L3 : QV 3 72 B.1 l1 l2 l3 := L.le (by decide)
  have H3 : QV 3 72 B.2 (l1 + k1) (l2 + k2) (l3 + k3) := (hB.h.up 1).le (by decide)
  have key : ∀ {m1 m2 m3 n1 n2 n3 : Rat}, QB 3 72 (oneB B) l1 l2 l3 m1 m2 m3 → QB 3 72 (twoB B) n1 n2 n3 (l1 + k1) (l2 + k2) (l3 + k3) → (l1 ≤ m1 ∧ m1 ≤ l1 + k1) → (l2 ≤ m2 ∧ m2 ≤ l2 + k2) → (l3 ≤ m3 ∧ m3 ≤ l3 + k3) → (l1 ≤ n1 ∧ n1 ≤ l1 + k1) → (l2 ≤ n2 ∧ n2 ≤ l2 + k2) → (l3 ≤ n3 ∧ n3 ≤ l3 + k3) →
      ((x ≤ m1 ∧ y ≤ m2 ∧ z ≤ m3) ∨ (n1 ≤ x ∧ n2 ≤ y ∧ n3 ≤ z)) →
      splOk B = true ∧ inB B p = true ∧ (inB (oneB B) p = false → inB (twoB B) p = true) ∧ inB B (oneB B).2 = true ∧ inB B (twoB B).1 = true ∧ inB (oneB B) B.1 = true ∧ inB (twoB B) B.2 = true := by
    intro m1 m2 m3 n1 n2 n3 q1 q2 c1 c2 c3 c4 c5 c6 c7
    refine ⟨?_, ?_, fun e => ?_, ?_, ?_, ?_, ?_⟩
    · unfold splOk
      rw [hB.valid, q1.valid, q2.valid]
      simp only [Bool.and_eq_true, decide_eq_true_eq]
      grind
    · rw [hB.isIn hp]; exact decide_eq_true ⟨r1, r2, r3⟩
    · rw [q1.isIn hp] at e
      have e := of_decide_eq_false e
      rw [q2.isIn hp]
      refine decide_eq_true ?_
      grind
    · rw [hB.isIn q1.h]; exact decide_eq_true ⟨c1, c2, c3⟩
    · rw [hB.isIn q2.l]; exact decide_eq_true ⟨c4, c5, c6⟩
    · rw [q1.isIn hl]; exact decide_eq_true ⟨⟨by grind, c1.1⟩, ⟨by grind, c2.1⟩, ⟨by grind, c3.1⟩⟩
    · rw [q2.isIn hB.h]; exact decide_eq_true ⟨⟨c4.2, by grind⟩, ⟨c5.2, by grind⟩, ⟨c6.2, by grind⟩⟩
  have a1 : l1 ≤ l1 + k1 := by grind
  have a2 : l2 ≤ l2 + k2 := by grind
  have a3 : l3 ≤ l3 + k3 := by grind
  have rf : ∀ q : Rat, q ≤ q := fun q => Rat.le_refl
  rcases axis_of B with e | e | e
  · obtain ⟨m, qm, m1, m2⟩ := q_mid hl.x hB.h.x h1
    have qm : Q 3 72 (midB B) m := by unfold midB; rw [e]; exact qm
    refine key (m1 := m) (m2 := l2 + k2) (m3 := l3 + k3) (n1 := m) (n2 := l2) (n3 := l3) ⟨L3, ?_⟩ ⟨?_, H3⟩ ⟨m1, m2⟩ ⟨a2, rf _⟩ ⟨a3, rf _⟩ ⟨m1, m2⟩ ⟨rf _, a2⟩ ⟨rf _, a3⟩ (by grind)
    · unfold oneB; rw [e]; exact ⟨qm, H3.y, H3.z⟩
    · unfold twoB; rw [e]; exact ⟨qm, L3.y, L3.z⟩
  · obtain ⟨m, qm, m1, m2⟩ := q_mid hl.y hB.h.y h2
    have qm : Q 3 72 (midB B) m := by unfold midB; rw [e]; exact qm
    refine key (m1 := l1 + k1) (m2 := m) (m3 := l3 + k3) (n1 := l1) (n2 := m) (n3 := l3) ⟨L3, ?_⟩ ⟨?_, H3⟩ ⟨a1, rf _⟩ ⟨m1, m2⟩ ⟨a3, rf _⟩ ⟨rf _, a1⟩ ⟨m1, m2⟩ ⟨rf _, a3⟩ (by grind)
    · unfold oneB; rw [e]; exact ⟨H3.x, qm, H3.z⟩
    · unfold twoB; rw [e]; exact ⟨L3.x, qm, L3.z⟩
  · obtain ⟨m, qm, m1, m2⟩ := q_mid hl.z hB.h.z h3
    have qm : Q 3 72 (midB B) m := by unfold midB; rw [e]; exact qm
    refine key (m1 := l1 + k1) (m2 := l2 + k2) (m3 := m) (n1 := l1) (n2 := l2) (n3 := m) ⟨L3, ?_⟩ ⟨?_, H3⟩ ⟨a1, rf _⟩ ⟨a2, rf _⟩ ⟨m1, m2⟩ ⟨rf _, a1⟩ ⟨rf _, a2⟩ ⟨m1, m2⟩ (by grind)
    · unfold oneB; rw [e]; exact ⟨H3.x, H3.y, qm⟩
    · unfold twoB; rw [e]; exact ⟨L3.x, L3.y, qm⟩
/-! the greater and the lesser -/
theorem q_max {s b x y : Nat} {p q : Rat} (h : Q s b x p) (h' : Q s b y q) : ∃ m, Q s b (maxF x y) m ∧ p ≤ m ∧ q ≤ m ∧ (m = p ∨ m = q) := by
  unfold maxF
  rw [h'.x.fgt h.x]
  by_cases c : p < q
  · rw [d_t c]; exact ⟨q, h', by grind, by grind, .inr rfl⟩
  · rw [d_f c]; exact ⟨p, h, by grind, by grind, .inl rfl⟩
theorem q_min {s b x y : Nat} {p q : Rat} (h : Q s b x p) (h' : Q s b y q) : ∃ m, Q s b (minF x y) m ∧ m ≤ p ∧ m ≤ q ∧ (m = p ∨ m = q) := by
  unfold minF
  rw [h'.x.flt h.x]
  by_cases c : q < p
  · rw [d_t c]; exact ⟨q, h', by grind, by grind, .inr rfl⟩
  · rw [d_f c]; exact ⟨p, h, by grind, by grind, .inl rfl⟩
theorem cuts {A B : V6} {s b t c : Nat} {l1 l2 l3 h1 h2 h3 l1' l2' l3' h1' h2' h3' : Rat} (hA : QB s b A l1 l2 l3 h1 h2 h3) (hB : QB s b B l1' l2' l3' h1' h2' h3') {q : V3} {x y z : Rat} (hq : QV t c q x y z) :
    (cutOk A B = true → (inB A q = true → inB (tolB A B) q = inB B q) ∧ (inB A q = false → inB (tolB A B) q = false)) ∧ (cutOk A B = false → inB A q = true → inB B q = false) := by
  obtain ⟨a1, q1, i1⟩ := q_max hA.l.x hB.l.x
  obtain ⟨a2, q2, i2⟩ := q_max hA.l.y hB.l.y
  obtain ⟨a3, q3, i3⟩ := q_max hA.l.z hB.l.z
  obtain ⟨a4, q4, i4⟩ := q_min hA.h.x hB.h.x
  obtain ⟨a5, q5, i5⟩ := q_min hA.h.y hB.h.y
  obtain ⟨a6, q6, i6⟩ := q_min hA.h.z hB.h.z
  have C : QB s b (cutB A B) a1 a2 a3 a4 a5 a6 := ⟨⟨q1, q2, q3⟩, ⟨q4, q5, q6⟩⟩
  refine ⟨fun e => ?_, fun e e1 => ?_⟩
  · have et : tolB A B = cutB A B := by unfold tolB toldB; unfold cutOk at e; rw [e]; rfl
    rw [et, C.isIn hq, hA.isIn hq, hB.isIn hq]
    refine ⟨fun e1 => ?_, fun e1 => ?_⟩
    · have e1 := of_decide_eq_true e1
      refine decide_eq_decide.2 ⟨fun k => ?_, fun k => ?_⟩
      · grind
      · obtain ⟨⟨_, _⟩, ⟨_, _⟩, ⟨_, _⟩⟩ := e1
        obtain ⟨⟨_, _⟩, ⟨_, _⟩, ⟨_, _⟩⟩ := k
        refine ⟨⟨?_, ?_⟩, ⟨?_, ?_⟩, ⟨?_, ?_⟩⟩ <;> grind
    · have e1 := of_decide_eq_false e1
      refine decide_eq_false fun k => e1 ?_
      obtain ⟨⟨_, _⟩, ⟨_, _⟩, ⟨_, _⟩⟩ := k
      refine ⟨⟨?_, ?_⟩, ⟨?_, ?_⟩, ⟨?_, ?_⟩⟩ <;> grind
  · unfold cutOk at e
    rw [C.valid] at e
    rw [hA.isIn hq] at e1
    have e1 := of_decide_eq_true e1
    rw [hB.isIn hq]
    refine decide_eq_false fun k => ?_
    obtain ⟨⟨_, _⟩, ⟨_, _⟩, ⟨_, _⟩⟩ := e1
    obtain ⟨⟨_, _⟩, ⟨_, _⟩, ⟨_, _⟩⟩ := k
    rw [d_t (show a1 ≤ a4 by grind), d_t (show a2 ≤ a5 by grind), d_t (show a3 ≤ a6 by grind)] at e
    cases e
/-! the box around three points -/
theorem min3 {s b x y z : Nat} {p q r : Rat} (h : Q s b x p) (h' : Q s b y q) (h'' : Q s b z r) : ∃ m, Q s b (minF (minF (minF x x) y) z) m ∧ m ≤ p ∧ m ≤ q ∧ m ≤ r := by
  obtain ⟨m1, a1, a2, a3, _⟩ := q_min h h
  obtain ⟨m2, b1, b2, b3, _⟩ := q_min a1 h'
  obtain ⟨m3, c1, c2, c3, _⟩ := q_min b1 h''
  exact ⟨m3, c1, by grind, by grind, c3⟩
theorem max3 {s b x y z : Nat} {p q r : Rat} (h : Q s b x p) (h' : Q s b y q) (h'' : Q s b z r) : ∃ m, Q s b (maxF (maxF (maxF x x) y) z) m ∧ p ≤ m ∧ q ≤ m ∧ r ≤ m := by
  obtain ⟨m1, a1, a2, a3, _⟩ := q_max h h
  obtain ⟨m2, b1, b2, b3, _⟩ := q_max a1 h'
  obtain ⟨m3, c1, c2, c3, _⟩ := q_max b1 h''
  exact ⟨m3, c1, by grind, by grind, c3⟩
theorem q_half : Q 1 1 1056964608 (1 / 2) := by
  have g : Gr 1 1 ((1 : Rat) / 2) := ⟨1, by decide +kernel, by decide⟩
  refine ⟨?_, g⟩
  have e : fdiv .f32 1065353216 1073741824 = 1056964608 := by decide +kernel
  rw [← e]
  exact q_one.x.div q_two.x (by grind) (g.rep32 (by decide) (by decide))
theorem arounds {p q r : V3} {x1 x2 x3 y1 y2 y3 z1 z2 z3 : Rat} (hp : QV 6 936 p x1 x2 x3) (hq : QV 6 936 q y1 y2 y3) (hr : QV 6 936 r z1 z2 z3) :
    arOk [p, q, r] = true ∧ groOk (arB [p, q, r]) 1056964608 = true ∧ inB (arB [p, q, r]) p = true ∧ inB (arB [p, q, r]) q = true ∧ inB (groB (arB [p, q, r]) 1056964608) (arB [p, q, r]).1 = true ∧ inB (arB [p, q, r]) (groB (arB [p, q, r]) 1056964608).2 = false := by
  obtain ⟨a1, q1, i1⟩ := min3 hp.x hq.x hr.x
  obtain ⟨a2, q2, i2⟩ := min3 hp.y hq.y hr.y
  obtain ⟨a3, q3, i3⟩ := min3 hp.z hq.z hr.z
  obtain ⟨a4, q4, i4⟩ := max3 hp.x hq.x hr.x
  obtain ⟨a5, q5, i5⟩ := max3 hp.y hq.y hr.y
  obtain ⟨a6, q6, i6⟩ := max3 hp.z hq.z hr.z
  have C : QB 6 936 (arB [p, q, r]) a1 a2 a3 a4 a5 a6 := ⟨⟨q1, q2, q3⟩, ⟨q4, q5, q6⟩⟩
  have K : QV 6 32 ((1056964608, 1056964608, 1056964608) : V3) (1 / 2) (1 / 2) (1 / 2) := ⟨q_half.up 5, q_half.up 5, q_half.up 5⟩
  have G : QB 6 968 (groB (arB [p, q, r]) 1056964608) (a1 - 1 / 2) (a2 - 1 / 2) (a3 - 1 / 2) (a4 + 1 / 2) (a5 + 1 / 2) (a6 + 1 / 2) := ⟨C.l.sub K (by decide) (by decide), C.h.add K (by decide) (by decide)⟩
  refine ⟨?_, ?_, ?_, ?_, ?_, ?_⟩
  · unfold arOk
    simp only [List.length_cons, List.length_nil, List.all_cons, List.all_nil, hp.fin, hq.fin, hr.fin]
    rfl
  · unfold groOk
    rw [C.valid, G.valid]
    simp only [Bool.and_eq_true, decide_eq_true_eq]
    grind
  · rw [C.isIn hp]
    refine decide_eq_true ?_
    grind
  · rw [C.isIn hq]
    refine decide_eq_true ?_
    grind
  · rw [G.isIn C.l]
    refine decide_eq_true ?_
    grind
  · rw [C.isIn G.h]
    refine decide_eq_false ?_
    grind
/-! sizes and lengths -/
theorem size_q {s b l h : Nat} {p q : Rat} (hl : Q s b l p) (hh : Q s b h q) (hle : p ≤ q) : ∃ u w, Q s b (sizeR (l, h)).1 u ∧ Q s b (sizeR (l, h)).2 w ∧ 0 ≤ u ∧ ∀ v, p ≤ v → v ≤ q → (v < 0 → u ≤ -v ∧ -v ≤ w) ∧ (¬ v < 0 → u ≤ v ∧ v ≤ w) := by
  unfold sizeR
  simp only
  rw [hl.x.fgt q_zero.x, hh.x.flt q_zero.x]
  by_cases c1 : 0 < p
  · rw [d_t c1, cond_true]
    exact ⟨p, q, hl, hh, by grind, fun v _ _ => by grind⟩
  · rw [d_f c1, cond_false]
    by_cases c2 : q < 0
    · rw [d_t c2, cond_true]
      exact ⟨-q, -p, hh.neg, hl.neg, by grind, fun v _ _ => by grind⟩
    · rw [d_f c2, cond_false]
      obtain ⟨m, qm, m1, m2, _⟩ := q_max hl.neg hh
      exact ⟨0, m, ⟨q_zero.x, Gr.zero s b⟩, qm, by grind, fun v _ _ => by grind⟩
theorem abs_sq {u v w : Rat} (u0 : 0 ≤ u) (h : (v < 0 → u ≤ -v ∧ -v ≤ w) ∧ (¬ v < 0 → u ≤ v ∧ v ≤ w)) : u * u ≤ v * v ∧ v * v ≤ w * w := by
  by_cases c : v < 0
  · obtain ⟨h1, h2⟩ := h.1 c
    have e1 := sq_le u0 h1
    have e2 := sq_le (show 0 ≤ -v by grind) h2
    grind
  · obtain ⟨h1, h2⟩ := h.2 c
    exact ⟨sq_le u0 h1, sq_le (by grind) h2⟩
theorem long_mono {s b t c : Nat} {v w : V3} {x y z p q r : Rat} (h : QV s b v x y z) (h' : QV t c w p q r) (hb : b * b + b * b + b * b ≤ 16777216) (hc : c * c + c * c + c * c ≤ 16777216) (hs : s ≤ 70) (ht : t ≤ 70) (h1 : x * x ≤ p * p) (h2 : y * y ≤ q * q) (h3 : z * z ≤ r * r) :
    fge .f32 (longV w) (longV v) = true ∧ fle .f32 (longV v) (longV w) = true := by
  have nn : ∀ a : Rat, 0 ≤ a * a := fun a => by
    by_cases c : 0 ≤ a
    · exact Rat.mul_nonneg c c
    · have := Rat.mul_nonneg (show 0 ≤ -a by grind) (show 0 ≤ -a by grind)
      grind
  have I := h.inner h hb (by omega)
  have J := h'.inner h' hc (by omega)
  have := nn x
  have := nn y
  have := nn z
  have i0 : 0 ≤ x * x + y * y + z * z := by grind
  have ij : x * x + y * y + z * z ≤ p * p + q * q + r * r := by grind
  have k := root_mono I.x J.x i0 ij
  have f1 := fin_nan (root_ex I.x i0).1
  have f2 := fin_nan (root_ex J.x (by grind)).1
  exact ⟨by show fge .f32 (rootN (innerV w w)) (rootN (innerV v v)) = true; rw [fge_ev f2 f1]; exact decide_eq_true k, by show fle .f32 (rootN (innerV v v)) (rootN (innerV w w)) = true; rw [fle_ev f1 f2]; exact decide_eq_true k⟩
end Go.Proofs.Ytfdalaakechldaa
