/- The operations that touch no memory do what the evaluator says. -/
import Derived.Test.YtfdalaakechldaaEvEq
set_option linter.unusedVariables false
set_option linter.unusedSimpArgs false
namespace Go.Ev

/-- The same world but for draws. -/
structure Drawn (w w' : World) : Prop where
  heap : w'.heap = w.heap
  os : w'.os = w.os
  tape : w'.tape = w.tape
  output : w'.output = w.output
theorem Drawn.refl (w : World) : Drawn w w := ⟨rfl, rfl, rfl, rfl⟩
theorem Drawn.drew (w : World) : Drawn w { w with drawn := w.drawn + 1 } := ⟨rfl, rfl, rfl, rfl⟩

def SemOk (P : Program) (g : List G) (M : Mem) (w : World) (s : Sem Value) (K : V → Prop) : Prop :=
  ∃ v val w', K v ∧ VR g M v val ∧ s.run P w = .ok val w' ∧ Drawn w w'

/-- The same, the world left as it is. -/
def SemSt (P : Program) (g : List G) (M : Mem) (w : World) (s : Sem Value) (K : V → Prop) : Prop :=
  ∃ v val, K v ∧ VR g M v val ∧ s.run P w = .ok val w
theorem SemSt.ok {P : Program} {g : List G} {M : Mem} {w : World} {s : Sem Value} {K : V → Prop} (h : SemSt P g M w s K) : SemOk P g M w s K := by
  obtain ⟨v, val, h1, h2, h3⟩ := h
  exact ⟨v, val, w, h1, h2, h3, Drawn.refl w⟩

theorem SemOk.pure {P : Program} {g : List G} {M : Mem} {w : World} {s : Sem Value} {K : V → Prop} {v : V} {val : Value} (hk : K v) (hv : VR g M v val) (hs : s.run P w = .ok val w) : SemOk P g M w s K :=
  ⟨v, val, w, hk, hv, hs, Drawn.refl w⟩

section
variable {P : Program} {g : List G} {M : Mem} {w : World} {K : V → Prop}

theorem size_eq_length (s : ByteArray) : s.size = s.data.toList.length := by show s.data.size = _; rw [Array.length_toList]

theorem wrap_range (k : IntKind) (n : Int) : k.min ≤ k.wrap n ∧ k.wrap n ≤ k.max := by
  first
  | exact k.wrap_range n
  | (cases k <;> simp only [IntKind.wrap, IntKind.min, IntKind.max, IntKind.bits, IntKind.signed] <;> simp <;> omega)

theorem tmod_le (a b : Int) (h : 0 ≤ a) : a.tmod b ≤ a := by
  obtain ⟨m, rfl⟩ := Int.eq_ofNat_of_zero_le h
  cases b with
  | ofNat n => exact Int.ofNat_le.2 (Nat.mod_le m n)
  | negSucc n => exact Int.ofNat_le.2 (Nat.mod_le m (n + 1))

theorem tmod_range {k : IntKind} {a b : Int} (ha : k.min ≤ a ∧ a ≤ k.max) : k.min ≤ a.tmod b ∧ a.tmod b ≤ k.max := by
  have h0 : k.min ≤ 0 ∧ 0 ≤ k.max := by cases k <;> decide
  rcases Int.le_total 0 a with h | h
  · have h1 := Int.tmod_nonneg b h
    have h2 : a.tmod b ≤ a := tmod_le a b h
    omega
  · have h1 : 0 ≤ (-a).tmod b := Int.tmod_nonneg b (by omega)
    have h2 : (-a).tmod b ≤ -a := tmod_le _ b (by omega)
    rw [Int.neg_tmod] at h1 h2
    omega

theorem fdiv_range {k : IntKind} {a : Int} (n : Nat) (ha : k.min ≤ a ∧ a ≤ k.max) : k.min ≤ a.fdiv (2 ^ n) ∧ a.fdiv (2 ^ n) ≤ k.max := by
  have h0 : k.min ≤ 0 ∧ 0 ≤ k.max := by cases k <;> decide
  have hp : (0 : Int) < 2 ^ n := Int.pow_pos (by decide)
  rw [Int.fdiv_eq_ediv_of_nonneg _ (Int.le_of_lt hp)]
  rcases Int.le_total 0 a with h | h
  · have h1 := Int.ediv_nonneg h (Int.le_of_lt hp)
    have h2 := Int.ediv_le_self (2 ^ n) h
    omega
  · have hm : a * 2 ^ n ≤ a := by
      have h3 : (0 : Int) ≤ 2 ^ n - 1 := by omega
      have h4 := Int.mul_nonneg (show (0 : Int) ≤ -a by omega) h3
      rw [Int.mul_sub, Int.neg_mul, Int.mul_one] at h4
      omega
    have h2 : a ≤ a / 2 ^ n := (Int.le_ediv_iff_mul_le hp).2 hm
    have h1 : a / 2 ^ n ≤ 0 := by
      have := Int.ediv_le_ediv hp h
      simpa using this
    omega

theorem binInt_sound (op : BinOp) (t : TypeId) (k : IntKind) (a b : Int) (ha : k.min ≤ a ∧ a ≤ k.max) (hs : isShift op = false) (h : binInt op k a b K) : SemOk P g M w (binOp op t (.int k a) (.int k b)) K := by
  cases op <;> simp only [isShift] at hs <;> simp only [binInt] at h <;> try (cases hs; done)
  · exact .pure h (.int _ _ (wrap_range _ _)) (by simp [binOp, Op.intArith])
  · exact .pure h (.int _ _ (wrap_range _ _)) (by simp [binOp, Op.intArith])
  · exact .pure h (.int _ _ (wrap_range _ _)) (by simp [binOp, Op.intArith])
  · cases hb : b == 0 with
    | true => simp [hb] at h
    | false =>
      simp only [hb, cond_false] at h
      have : b ≠ 0 := by simpa using hb
      exact .pure h (.int _ _ (wrap_range _ _)) (by simp [binOp, Op.intDiv, this])
  · cases hb : b == 0 with
    | true => simp [hb] at h
    | false =>
      simp only [hb, cond_false] at h
      have : b ≠ 0 := by simpa using hb
      exact .pure h (.int _ _ (tmod_range ha)) (by simp [binOp, Op.intDiv, this])
  · exact .pure h (.int _ _ (wrap_range _ _)) (by simp only [binOp, Op.intBits, ne_eq, not_true_eq_false, if_false]; rfl)
  · exact .pure h (.int _ _ (wrap_range _ _)) (by simp only [binOp, Op.intBits, ne_eq, not_true_eq_false, if_false]; rfl)
  · exact .pure h (.int _ _ (wrap_range _ _)) (by simp only [binOp, Op.intBits, ne_eq, not_true_eq_false, if_false]; rfl)
  · exact .pure h (.int _ _ (wrap_range _ _)) (by simp only [binOp, Op.intBits, ne_eq, not_true_eq_false, if_false]; rfl)
  · exact .pure h (.bool _) (by simp [binOp, Op.intCmp])
  · exact .pure h (.bool _) (by simp [binOp, Op.intCmp])
  · exact .pure h (.bool _) (by simp [binOp, Op.intCmp])
  · exact .pure h (.bool _) (by simp [binOp, Op.intCmp])
  · exact .pure h (.bool _) (by simp [binOp, Op.intCmp])
  · exact .pure h (.bool _) (by simp [binOp, Op.intCmp])

theorem shift_sound (op : BinOp) (t : TypeId) (k k' : IntKind) (a b : Int) (ha : k.min ≤ a ∧ a ≤ k.max) (h : shiftOp op k a b K) : SemOk P g M w (binOp op t (.int k a) (.int k' b)) K := by
  cases op <;> simp only [shiftOp] at h
  all_goals
    cases hb : decide (b < 0) with
    | true => simp [hb] at h
    | false =>
      simp only [hb, cond_false] at h
      have : ¬ b < 0 := by simpa using hb
      exact .pure h (.int _ _ (by first | exact wrap_range _ _ | exact fdiv_range _ ha)) (by simp [binOp, Op.shift, this])

theorem orNan_ok {k : FloatKind} {r : Nat} (h : nan k r = false) : orNan k (some r) = canon k r := by simp [orNan, canon_not h]

theorem choose_nan (k : FloatKind) (q : Question) (hq : (∃ x y, q = .nanBits k x y) ∨ (∃ b, q = .nanConv k b)) (w : World) :
    ∃ r w', (choose q).run P w = .ok r w' ∧ Drawn w w' ∧ nan k r = true ∧ r < 2 * signOf k := by
  have hc := cut_nan k q hq (w.tape w.drawn q)
  have hf : q.forced = false := by rcases hq with ⟨x, y, rfl⟩ | ⟨b, rfl⟩ <;> rfl
  exact ⟨_, _, by simp [hf], Drawn.drew w, hc.1, hc.2⟩

theorem floatRes (k : FloatKind) (x y : Nat) (o : Option Nat) (ho : ∀ r, o = some r → nan k r = false ∧ r < 2 * signOf k) :
    ∃ r w', (match o with | some r => (Pure.pure (.float k r) : Sem Value) | none => do Pure.pure (.float k (← choose (.nanBits k x y)))).run P w = .ok (.float k r) w' ∧ Drawn w w' ∧ canon k r = orNan k o ∧ r < 2 * signOf k := by
  cases o with
  | some r =>
    obtain ⟨h1, h2⟩ := ho r rfl
    exact ⟨r, w, rfl, Drawn.refl w, (orNan_ok h1).symm, h2⟩
  | none =>
    obtain ⟨r, w', h1, h2, h3, h4⟩ := choose_nan (P := P) k (.nanBits k x y) (.inl ⟨x, y, rfl⟩) w
    exact ⟨r, w', by simp only [Sem.run_bind, h1, Result.andThen_ok]; rfl, h2, by rw [canon_nan h3]; rfl, h4⟩

theorem binFloat_sound (op : BinOp) (t : TypeId) (k : FloatKind) (a b : Nat) (h : binFloat op k (canon k a) (canon k b) K) : SemOk P g M w (binOp op t (.float k a) (.float k b)) K := by
  cases op <;> simp only [binFloat] at h
  case add =>
    obtain ⟨r, w', h1, h2, h3, h4⟩ := floatRes (P := P) (w := w) k a b (k.format.add a b) (fun r hr => ⟨nan_add hr, by rw [← width_eq]; exact k.format.add_lt hr⟩)
    rw [fadd, add_canon] at h
    exact ⟨_, _, _, h, .float k _ r h4 h3.symm, by simp only [binOp, ne_eq, not_true_eq_false, if_false, Op.floatArith, pure_bind]; exact h1, h2⟩
  case sub =>
    obtain ⟨r, w', h1, h2, h3, h4⟩ := floatRes (P := P) (w := w) k a b (k.format.sub a b) (fun r hr => ⟨nan_sub hr, by rw [← width_eq]; exact k.format.sub_lt hr⟩)
    rw [fsub, sub_canon] at h
    exact ⟨_, _, _, h, .float k _ r h4 h3.symm, by simp only [binOp, ne_eq, not_true_eq_false, if_false, Op.floatArith, pure_bind]; exact h1, h2⟩
  case mul =>
    obtain ⟨r, w', h1, h2, h3, h4⟩ := floatRes (P := P) (w := w) k a b (k.format.mul a b) (fun r hr => ⟨nan_mul hr, by rw [← width_eq]; exact k.format.mul_lt hr⟩)
    rw [fmul, mul_canon] at h
    exact ⟨_, _, _, h, .float k _ r h4 h3.symm, by simp only [binOp, ne_eq, not_true_eq_false, if_false, Op.floatArith, pure_bind]; exact h1, h2⟩
  case quo =>
    obtain ⟨r, w', h1, h2, h3, h4⟩ := floatRes (P := P) (w := w) k a b (k.format.div a b) (fun r hr => ⟨nan_div hr, by rw [← width_eq]; exact k.format.div_lt hr⟩)
    rw [fdiv, div_canon] at h
    exact ⟨_, _, _, h, .float k _ r h4 h3.symm, by simp only [binOp, ne_eq, not_true_eq_false, if_false, Op.floatArith, pure_bind]; exact h1, h2⟩
  all_goals
    simp only [feq, flt, fle, fgt, fge, order_canon] at h
    exact .pure h (.bool _) (by simp [binOp, Op.floatCmp, bne])



theorem binStr_sound (op : BinOp) (t : TypeId) (a b : ByteArray) (h : binStr op a.data.toList b.data.toList K) : SemOk P g M w (binOp op t (.string a) (.string b)) K := by
  cases op <;> simp only [binStr] at h
  case add =>
    cases hl : Nat.blt (a.data.toList.length + b.data.toList.length) 9223372036854775808 with
    | false => simp only [hl, cond_false] at h
    | true =>
      simp only [hl, cond_true] at h
      rw [Nat.blt_eq, ← size_eq_length, ← size_eq_length] at hl
      refine .pure h (.str (a ++ b) _ (by simp) (by rw [List.length_append, ← size_eq_length, ← size_eq_length]; omega)) ?_
      have hn : ¬ ((a.size + b.size : Nat) : Int) > IntKind.i64.max := by
        have : IntKind.i64.max = 9223372036854775807 := by decide
        rw [this]; omega
      simp only [binOp, Op.stringOp, hn, if_false]
      rfl
  all_goals
    refine .pure h (.bool _) ?_
    simp only [binOp, Op.stringOp, toList_bytes, bytesEq]
    rfl

theorem xor_sign (k : FloatKind) (b : Nat) : (b ^^^ signOf k) % signOf k = b % signOf k := by
  cases k
  · show (b ^^^ 2 ^ 31) % 2 ^ 31 = b % 2 ^ 31
    rw [Nat.xor_mod_two_pow]; simp
  · show (b ^^^ 2 ^ 63) % 2 ^ 63 = b % 2 ^ 63
    rw [Nat.xor_mod_two_pow]; simp
theorem xor_lt (k : FloatKind) {b : Nat} (h : b < 2 * signOf k) : b ^^^ signOf k < 2 * signOf k := by
  cases k
  · exact Nat.xor_lt_two_pow (n := 32) h (by decide)
  · exact Nat.xor_lt_two_pow (n := 64) h (by decide)
theorem nan_xor (k : FloatKind) (b : Nat) : nan k (b ^^^ signOf k) = nan k b := by simp [nan, xor_sign]
theorem fneg_canon (k : FloatKind) (b : Nat) : fneg k (canon k b) = canon k (b ^^^ signOf k) := by
  unfold fneg
  cases h : nan k b with
  | false => rw [canon_not h]
  | true => rw [canon_nan h, canon_nan (by rw [nan_xor]; exact nan_qnan k), canon_nan (by rw [nan_xor]; exact h)]

theorem unV_sound (op : UnOp) {x : V} {c : Value} (hx : VR g M x c) (h : unV op x K) : SemOk P g M w (Op.unary op c) K := by
  cases op <;> simp only [unV] at h
  · cases hx <;> simp only at h <;> try exact h.elim
    · exact .pure h (.int _ _ (wrap_range _ _)) (by simp [Op.unary, Op.intArith])
    · rename_i k b b' h1 h2
      subst h2
      rw [fneg_canon] at h
      refine .pure h (.float k _ _ (xor_lt k h1) rfl) ?_
      simp only [Op.unary, Op.negFloat]
      cases k <;> rfl
  · cases hx <;> simp only at h <;> try exact h.elim
    exact .pure h (.bool _) (by simp [Op.unary])

/-- Comparisons of bools. -/
theorem boolEq_sound {C : Ctx} (L : LOk P C) {t : TypeId} (hd : (C.ti t).desc = .bool) (a b : Bool) : (Op.equal t (.bool a) (.bool b)).run P w = .ok (a == b) w := by
  have F := L.get (t := t) (.inl (by rw [hd]; simp))
  have hu : P.underlying t = some .bool := by rw [F.under, hd]
  unfold Op.equal
  obtain ⟨d, hd'⟩ : ∃ d, Op.maxDepth = d + 1 := ⟨9999, rfl⟩
  rw [hd']
  simp only [Op.equalIn, Sem.run_bind, Go.run_underlying hu, Result.andThen_ok, Sem.run_pure]

/-- A slice against nil. -/
theorem sliceEq_sound {C : Ctx} (L : LOk P C) {t e : TypeId} (hd : (C.ti t).desc = .slice e) (ad : Option Addr) (n cap : Nat) : (Op.equal t (.slice ad n cap) (.slice none 0 0)).run P w = .ok ad.isNone w := by
  have F := L.get (t := t) (.inl (by rw [hd]; simp))
  have hu : P.underlying t = some (.slice e) := by rw [F.under, hd]
  unfold Op.equal
  obtain ⟨d, hd'⟩ : ∃ d, Op.maxDepth = d + 1 := ⟨9999, rfl⟩
  rw [hd']
  cases ad with
  | none => simp only [Op.equalIn, Sem.run_bind, Go.run_underlying hu, Result.andThen_ok, Sem.run_pure, Option.isNone_none]
  | some a => simp only [Op.equalIn, Sem.run_bind, Go.run_underlying hu, Result.andThen_ok, Sem.run_pure]; rfl

theorem andNot_bits {n : Int} (h : 0 ≤ n ∧ n ≤ 4294967295) : (BitVec.ofInt 32 n &&& ~~~BitVec.ofInt 32 2147483648).toNat = n.toNat % 2147483648 := by
  obtain ⟨x, rfl⟩ : ∃ x : Nat, n = (x : Int) := ⟨n.toNat, by omega⟩
  rw [BitVec.toNat_and, BitVec.ofInt_natCast, BitVec.toNat_ofNat, Nat.mod_eq_of_lt (show x < 2 ^ 32 by omega), Int.toNat_natCast]
  exact Nat.and_two_pow_sub_one_eq_mod x 31
theorem nan_mod (x : Nat) : nan .f32 (x % 2147483648) = nan .f32 x := by
  unfold nan
  rw [show x % 2147483648 % signOf .f32 = x % signOf .f32 from Nat.mod_mod _ _]
theorem binV_sound {C : Ctx} (L : LOk P C) (op : BinOp) (t : TypeId) {x y : V} {a b : Value} (hx : VR g M x a) (hy : VR g M y b) (h : binV C op t x y K) (xo yo : Operand) :
    SemOk P g M w (do eqGuard op t xo yo a b; binOp op t a b) K := by
  unfold binV at h
  have guard : ∀ (s : Sem Value), (eqGuard op t xo yo a b).run P w = .ok () w → SemOk P g M w s K → SemOk P g M w (do eqGuard op t xo yo a b; s) K := by
    intro s this ⟨v, val, w', k1, k2, k3, k4⟩
    refine ⟨v, val, w', k1, k2, ?_, k4⟩
    simp only [Sem.run_bind, this, Result.andThen_ok, k3]
  cases hx <;> simp only at h <;> try exact h.elim
  · rename_i p
    cases hy <;> simp only at h <;> try exact h.elim
    rename_i q
    refine guard _ (by unfold eqGuard; cases op <;> rfl) ?_
    split at h
    · rename_i hd
      split at h
      · exact .pure h (.bool _) (by simp [binOp, boolEq_sound L hd])
      · refine .pure h (.bool _) ?_
        simp [binOp, boolEq_sound L hd, bne]
      · exact h.elim
    · exact h.elim
  · rename_i k p hp
    cases hy <;> simp only at h <;> try exact h.elim
    rename_i k' q hq
    refine guard _ (by unfold eqGuard; cases op <;> rfl) ?_
    cases hs : isShift op with
    | true => simp only [hs, cond_true] at h; exact shift_sound op t k k' p q hp h
    | false =>
      simp only [hs, cond_false] at h
      split at h
      · rename_i e; subst e; exact binInt_sound op t k p q hp hs h
      · exact h.elim
  · rename_i k p p' h1 h2
    cases hy <;> simp only at h <;> try exact h.elim
    rename_i k' q q' h3 h4
    refine guard _ (by unfold eqGuard; cases op <;> rfl) ?_
    split at h
    · rename_i e; subst e; subst h2; subst h4; exact binFloat_sound op t k p' q' h
    · exact h.elim
  · rename_i s l hl hl2
    cases hy <;> simp only at h <;> try exact h.elim
    rename_i s' l' hl' hl2'
    refine guard _ (by unfold eqGuard; cases op <;> rfl) ?_
    subst hl; subst hl'
    exact binStr_sound op t s s' h
  · rename_i xs cs hxs
    cases hy <;> simp only at h <;> try exact h.elim
    rename_i ys ds hys
    cases hok : (C.ti t).eqok with
    | false => simp only [hok, cond_false] at h
    | true =>
      simp only [hok, cond_true] at h
      split at h
      · exact h.elim
      · rename_i r hr
        have hF : (C.ti t).desc ≠ .invalid ∨ (C.ti t).size ≠ 0 := by
          refine .inl fun e => ?_
          simp only [eqV] at hr
          rw [e] at hr
          cases hr
        have hq := (L.get hF).eqok hok
        have he := eqV_sound (P := P) (w := w) L 8 10000 (by omega) t _ _ r hr (.agg _ _ hxs) (.agg _ _ hys) hF
        refine guard _ (run_eqGuard_agg w op t xo yo cs ds hq.1) ?_
        split at h
        · exact .pure h (.bool _) (by rw [run_eql_struct, he]; rfl)
        · exact .pure h (.bool _) (by rw [run_neq_struct, he]; rfl)
        · exact h.elim
  · rename_i ty xs b0 off n cap cs hm hn hc hv
    cases xs with
    | nil => exact h.elim
    | cons x0 xs =>
      simp only at h
      cases hy <;> simp only at h <;> try exact h.elim
      split at h
      · rename_i e hd
        refine guard _ (by unfold eqGuard; cases op <;> rfl) ?_
        split at h
        · exact .pure h (.bool _) (by simp [binOp, sliceEq_sound L hd])
        · exact .pure h (.bool _) (by simp [binOp, sliceEq_sound L hd])
        · exact h.elim
      · exact h.elim
  · rename_i b0 z0 ad cap hb0 hz0
    cases hy <;> simp only at h <;> try exact h.elim
    split at h
    · rename_i e hd
      refine guard _ (by unfold eqGuard; cases op <;> rfl) ?_
      subst hb0
      split at h
      · exact .pure h (.bool _) (by simp [binOp, sliceEq_sound L hd])
      · exact .pure h (.bool _) (by simp [binOp, sliceEq_sound L hd])
      · exact h.elim
    · exact h.elim
  · rename_i n hn1 hn2
    cases hy <;> (try simp only at h) <;> (try exact h.elim)
    rename_i k q hq
    cases k <;> (try simp only at h) <;> (try exact h.elim)
    cases op <;> (try simp only at h) <;> (try exact h.elim)
    cases hm : decide (q = 2147483648) with
    | false => simp only [hm, cond_false] at h
    | true =>
      simp only [hm, cond_true] at h
      have hq2 := of_decide_eq_true hm
      subst hq2
      refine guard _ (by unfold eqGuard; rfl) ?_
      obtain ⟨v, val, w', k1, k2, k3, k4⟩ := binInt_sound (K := fun v => v = .int .u32 (IntKind.u32.wrap (BitVec.ofInt 32 n &&& ~~~(BitVec.ofInt 32 2147483648)).toNat)) (P := P) (g := g) (M := M) (w := w) .andNot t .u32 n 2147483648 hn1 rfl rfl
      have hb := andNot_bits hn1
      have hw : IntKind.u32.wrap ((BitVec.ofInt 32 n &&& ~~~(BitVec.ofInt 32 2147483648)).toNat : Int) = ((n.toNat % 2147483648 : Nat) : Int) := by
        rw [hb, IntKind.wrap_u32]
        omega
      rw [hw] at k1
      subst k1
      cases k2
      refine ⟨.nanb, _, w', h, .nanb _ (by omega) ?_, k3, k4⟩
      rw [Int.toNat_natCast, nan_mod]
      exact hn2

/-! ### conversions -/
theorem decode_inf {k : FloatKind} {b : Nat} {s : Bool} (h : k.format.read b = .infinity s) : b % signOf k = infOf k := by
  unfold Ieee.Format.read at h
  simp only [sign_eq, inf_eq] at h
  split at h
  · cases h
  · split at h
    · cases h
    · split at h
      · assumption
      · cases h

theorem encode_lt (k : FloatKind) (d : Ieee.Datum) : k.encode d < 2 * signOf k := by rw [← width_eq]; exact k.format.write_lt d

theorem decode_canon {k : FloatKind} (b : Nat) (h : nan k b = false) : k.decode (canon k b) = k.decode b := by rw [canon_not h]

theorem f2i_sound (s : FloatKind) (b : Nat) (d : IntKind) {n : Int} (h : f2i s (canon s b) d = some n) : (Conv.floatToInt s b d).run P w = .ok (.int d n) w := by
  unfold f2i at h
  cases hn : nan s b with
  | true =>
    obtain ⟨x, y, e⟩ := read_nan (k := s) (b := canon s b) (by rw [nan_canon, hn])
    have : (s.decode (canon s b)).toInt .zero = none := by rw [show s.decode (canon s b) = _ from e]; rfl
    rw [this] at h
    cases h
  | false =>
    rw [canon_not hn] at h
    unfold Conv.floatToInt
    split at h
    · rename_i m hm
      split at h
      · rename_i hr
        cases h
        simp only [hm]
        rw [if_pos hr]
        rfl
      · cases h
    · cases h

theorem f2i_range {s : FloatKind} {b : Nat} {d : IntKind} {n : Int} (h : f2i s b d = some n) : d.min ≤ n ∧ n ≤ d.max := by
  unfold f2i at h
  split at h
  · split at h
    · rename_i hr; cases h; exact hr
    · cases h
  · cases h

theorem f2i_any (s : FloatKind) (b : Nat) (d : IntKind) : ∃ val w', (Conv.floatToInt s b d).run P w = .ok val w' ∧ Drawn w w' := by
  have hc : ∃ val w', (do Pure.pure (Value.int d (d.wrap (← choose (.floatToInt s b d)))) : Sem Value).run P w = .ok val w' ∧ Drawn w w' :=
    ⟨.int d (d.wrap (Question.cut (.floatToInt s b d) (w.tape w.drawn (.floatToInt s b d)))), { w with drawn := w.drawn + 1 }, rfl, Drawn.drew w⟩
  unfold Conv.floatToInt
  split
  · split
    · exact ⟨_, _, rfl, Drawn.refl w⟩
    · exact hc
  · exact hc

theorem floatToFloat_nan (s d : FloatKind) (b : Nat) (hsd : s ≠ d) (hn : nan s b = true) :
    ∃ r w', (Conv.floatToFloat s b d).run P w = .ok (.float d r) w' ∧ Drawn w w' ∧ nan d r = true ∧ r < 2 * signOf d := by
  obtain ⟨x, y, e⟩ := read_nan hn
  obtain ⟨r, w', h1, h2, h3, h4⟩ := choose_nan (P := P) d (.nanConv d b) (.inr ⟨b, rfl⟩) w
  refine ⟨r, w', ?_, h2, h3, h4⟩
  unfold Conv.floatToFloat
  rw [if_neg hsd]
  simp only [show s.decode b = _ from e, Sem.run_bind, h1, Result.andThen_ok]
  rfl

theorem nan_encode {d : FloatKind} {x : Ieee.Datum} (h : plainD x = true) : nan d (d.encode x) = false := nan_write h
theorem not_nan_plain {s : FloatKind} {b : Nat} (h : nan s b = false) : plainD (s.decode b) = true := by
  have := read_not_nan h
  cases e : s.decode b with
  | nan x y => exact absurd e (this x y)
  | _ => rfl

theorem cut_zero (neg : Bool) (n : Nat) : Ieee.Toward.even.cut neg n 0 = n := by
  unfold Ieee.Toward.cut
  simp [Nat.mod_one]

theorem read_f32 {b : Nat} {s : Bool} {m : Nat} {e : Int} (h : FloatKind.f32.decode b = .number s m e) : m < 16777216 ∧ -149 ≤ e ∧ e ≤ 104 := by
  unfold FloatKind.decode FloatKind.format Ieee.Format.read at h
  have e1 : Ieee.single.signWeight = 2147483648 := rfl
  have e2 : Ieee.single.binade = 8388608 := rfl
  have e3 : Ieee.single.infRung = 2139095040 := rfl
  have e4 : Ieee.single.leastPlace = -149 := by decide
  simp only [e1, e2, e3, e4] at h
  split at h
  · cases h; omega
  · split at h
    · cases h; omega
    · split at h <;> cases h

theorem log2_lt {m n : Nat} (h : m < 2 ^ n) (hm : m ≠ 0) : m.log2 < n := (Nat.log2_lt hm).2 h

theorem shift_lt {m : Nat} (hm : m ≠ 0) (s : Nat) (h : m.log2 + s = 52) : m <<< s < 9007199254740992 := by
  rw [Nat.shiftLeft_eq]
  have h1 : m < 2 ^ (m.log2 + 1) := Nat.lt_log2_self
  have h2 : m * 2 ^ s < 2 ^ (m.log2 + 1) * 2 ^ s := Nat.mul_lt_mul_of_pos_right h1 (Nat.two_pow_pos s)
  rw [← Nat.pow_add, show m.log2 + 1 + s = 53 by omega] at h2
  exact h2

theorem widen_fits {b : Nat} {s : Bool} {m : Nat} {e : Int} (h : FloatKind.f32.decode b = .number s m e) : (FloatKind.f64.decode (FloatKind.f64.encode (.number s m e))).isInfinity = false := by
  obtain ⟨h1, h2, h3⟩ := read_f32 h
  have hlt : ∃ r, FloatKind.f64.encode (.number s m e) = Ieee.double.word s r ∧ r < 9218868437227405312 := by
    unfold FloatKind.encode FloatKind.format Ieee.Format.write Ieee.Format.nearest
    simp only
    by_cases hm : m = 0
    · exact ⟨0, by rw [if_pos hm], by omega⟩
    · rw [if_neg hm]
      refine ⟨_, rfl, ?_⟩
      have e2 : Ieee.double.binade = 4503599627370496 := rfl
      have e3 : Ieee.double.infRung = 9218868437227405312 := rfl
      have e4 : Ieee.double.leastPlace = -1074 := by decide
      have e5 : Ieee.double.fractionBits = 52 := rfl
      have hl : m.log2 < 24 := log2_lt (n := 24) h1 hm
      rw [e2, e3, e4, e5]
      have hmax : max (e + (m.log2 : Int) - ((52 : Nat) : Int)) (-1074) = e + (m.log2 : Int) - 52 := by
        have : ((52 : Nat) : Int) = 52 := rfl
        omega
      rw [hmax]
      have hd : (e + (m.log2 : Int) - 52 - e).toNat = 0 := by omega
      rw [hd, cut_zero]
      have hs := shift_lt hm (e - (e + (m.log2 : Int) - 52)).toNat (by omega)
      have ht : (e + (m.log2 : Int) - 52 - -1074).toNat ≤ 1149 := by omega
      refine Nat.lt_of_le_of_lt (Nat.min_le_left _ _) ?_
      have := Nat.mul_le_mul_right 4503599627370496 ht
      omega
  obtain ⟨r, hr, hlt⟩ := hlt
  rw [hr]
  cases hi : FloatKind.f64.decode (Ieee.double.word s r) with
  | infinity s' =>
    have := decode_inf (k := .f64) hi
    simp only [signOf, infOf] at this
    unfold Ieee.Format.word at this
    have e1 : Ieee.double.signWeight = 9223372036854775808 := rfl
    rw [e1] at this
    split at this <;> omega
  | number _ _ _ => rfl
  | nan _ _ => rfl

theorem convV_sound {C : Ctx} (L : LOk P C) (src dst : TypeId) {x : V} {c : Value} (hx : VR g M x c) (h : convV C src dst x K) : SemOk P g M w (convert src dst c) K := by
  unfold convV at h
  cases hz : Nat.beq (C.ti src).size 0 with
  | true => simp [hz] at h
  | false =>
    simp only [hz, cond_false] at h
    have Fs := L.get (t := src) (.inr (fun e => by rw [e] at hz; cases hz))
    have hus := Fs.under
    generalize (C.ti src).desc = u at hus h
    cases hx <;> simp only at h <;> try exact h.elim
    · rename_i k n hkn
      have Fd : ∀ d, (C.ti dst).desc = d → d ≠ .invalid → P.underlying dst = some d := fun d e ne => by rw [← e]; exact (L.get (t := dst) (.inl (by rw [e]; exact ne))).under
      split at h
      · rename_i k' hd
        refine .pure h (.int _ _ (wrap_range _ _)) ?_
        cases u <;> simp [convert, Go.run_underlying hus, Go.run_underlying (Fd _ hd (by simp)), Conv.intToInt]
      · rename_i k' hd
        refine .pure (val := .float k' (k'.nearest n)) h (.float _ _ _ (encode_lt k' (.number (n < 0) n.natAbs 0)) ?_) ?_
        · exact (canon_not (nan_encode (x := .number (n < 0) n.natAbs 0) rfl)).symm
        · cases u <;> simp [convert, Go.run_underlying hus, Go.run_underlying (Fd _ hd (by simp)), Conv.intToFloat]
      · exact h.elim
    · rename_i k b b' hb hb'
      subst hb'
      have Fd : ∀ d, (C.ti dst).desc = d → d ≠ .invalid → P.underlying dst = some d := fun d e ne => by rw [← e]; exact (L.get (t := dst) (.inl (by rw [e]; exact ne))).under
      split at h
      · rename_i k' hd
        have hrun : ∀ w, (convert src dst (.float k b')).run P w = (Conv.floatToInt k b' k').run P w := by
          intro w
          cases u <;> simp [convert, Go.run_underlying hus, Go.run_underlying (Fd _ hd (by simp))]
        split at h
        · rename_i n hn
          exact .pure h (.int _ _ (f2i_range hn)) (by rw [hrun]; exact f2i_sound k b' k' hn)
        · obtain ⟨val, w', h1, h2⟩ := f2i_any (P := P) (w := w) k b' k'
          exact ⟨.undef, val, w', h, .undef _, by rw [hrun]; exact h1, h2⟩
      · rename_i hd
        have hrun : ∀ w, (convert src dst (.float k b')).run P w = (Conv.floatToFloat k b' .f64).run P w := by
          intro w
          cases u <;> simp [convert, Go.run_underlying hus, Go.run_underlying (Fd _ hd (by simp))]
        cases k with
        | f64 =>
          simp only at h
          exact .pure h (.float _ _ b' hb rfl) (by rw [hrun]; rfl)
        | f32 =>
          simp only at h
          cases hn : nan .f32 b' with
          | true =>
            obtain ⟨r, w', h1, h2, h3, h4⟩ := floatToFloat_nan (P := P) (w := w) .f32 .f64 b' (by simp) hn
            have : widen (canon .f32 b') = canon .f64 r := by
              unfold widen
              rw [nan_canon, hn, canon_nan h3]; rfl
            exact ⟨_, _, w', h, .float _ _ r h4 this, by rw [hrun]; exact h1, h2⟩
          | false =>
            have hw : widen (canon .f32 b') = canon .f64 (FloatKind.f64.encode (FloatKind.f32.decode b')) := by
              unfold widen
              rw [nan_canon, hn, canon_not hn, canon_not (nan_encode (not_nan_plain hn))]; rfl
            refine .pure h (.float _ _ _ (encode_lt _ _) hw) ?_
            rw [hrun]
            unfold Conv.floatToFloat
            rw [if_neg (by simp)]
            have hp := not_nan_plain hn
            split
            · rename_i e; rw [e] at hp; cases hp
            · rename_i e; rw [e]; rfl
            · rename_i sg m ex e
              rw [e]
              simp only [widen_fits e, Bool.false_eq_true, if_false]
              rfl
      · rename_i hd
        have hrun : ∀ w, (convert src dst (.float k b')).run P w = (Conv.floatToFloat k b' .f32).run P w := by
          intro w
          cases u <;> simp [convert, Go.run_underlying hus, Go.run_underlying (Fd _ hd (by simp))]
        cases k with
        | f32 =>
          simp only at h
          exact .pure h (.float _ _ b' hb rfl) (by rw [hrun]; rfl)
        | f64 =>
          simp only at h
          cases hn : nan .f64 b' with
          | true =>
            obtain ⟨r, w', h1, h2, h3, h4⟩ := floatToFloat_nan (P := P) (w := w) .f64 .f32 b' (by simp) hn
            have : narrow (canon .f64 b') = canon .f32 r := by
              unfold narrow
              rw [nan_canon, hn, canon_nan h3]; rfl
            cases ho : ovf (canon .f64 b') with
            | true =>
              rw [ho] at h
              exact ⟨_, _, w', h, .undef _, by rw [hrun]; exact h1, h2⟩
            | false =>
              rw [ho] at h
              exact ⟨_, _, w', h, .float _ _ r h4 this, by rw [hrun]; exact h1, h2⟩
          | false =>
            rw [canon_not hn] at h
            have hp := not_nan_plain hn
            have hnw : narrow b' = canon .f32 (FloatKind.f32.encode (FloatKind.f64.decode b')) := by
              unfold narrow
              rw [hn, canon_not (nan_encode (not_nan_plain hn))]; rfl
            cases e : FloatKind.f64.decode b' with
            | nan x y => rw [e] at hp; cases hp
            | infinity s =>
              have ho : ovf b' = false := by unfold ovf; rw [e]
              rw [ho] at h
              refine .pure h (.float _ _ _ (encode_lt _ _) hnw) ?_
              rw [hrun]
              unfold Conv.floatToFloat
              rw [if_neg (by simp), e]
              rfl
            | number s m ex =>
              have ho : ovf b' = (FloatKind.f32.decode (FloatKind.f32.encode (.number s m ex))).isInfinity := by unfold ovf; rw [e]
              cases ho' : ovf b' with
              | true =>
                rw [ho'] at h
                refine ⟨.undef, .float .f32 (Question.cut (.floatToFloat b') (w.tape w.drawn (.floatToFloat b'))), { w with drawn := w.drawn + 1 }, h, .undef _, ?_, Drawn.drew w⟩
                rw [hrun]
                unfold Conv.floatToFloat
                rw [if_neg (by simp), e]
                simp only [← ho, ho', if_true]
                rfl
              | false =>
                rw [ho'] at h
                refine .pure h (.float _ _ _ (encode_lt _ _) hnw) ?_
                rw [hrun]
                unfold Conv.floatToFloat
                rw [if_neg (by simp), e]
                simp only [← ho, ho', Bool.false_eq_true, if_false]
                rfl
      · exact h.elim
    · rename_i s l hl hl2
      split at h
      · rename_i hu
        split at h
        · rename_i hd
          have Fd := (L.get (t := dst) (.inl (by rw [hd]; simp))).under
          rw [hd] at Fd
          refine .pure h (.str s _ hl hl2) ?_
          simp [convert, Go.run_underlying hus, Go.run_underlying Fd]
        · exact h.elim
      · exact h.elim

end
end Go.Ev
