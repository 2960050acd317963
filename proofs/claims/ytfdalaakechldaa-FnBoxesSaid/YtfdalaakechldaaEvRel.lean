/- How the evaluator's plain values stand for the model's values and memory. -/
import Derived.Test.YtfdalaakechldaaEvDef
import Derived.Lib.FrozenHead
set_option linter.unusedVariables false
set_option linter.unusedSimpArgs false
namespace Go.Ev

/-- What an owned thing's number stands for: a block; a slice with how often it has changed and its element's cells. -/
inductive G where
  | box (b : Nat)
  | sl (h : Value) (ver sz : Nat)
  | bld (b : Nat) (buf : Option Nat)
  | dp (h : Value) (ver iv sz : Nat) (bs : List Nat) (ih : Nat → Value)

/-- Blocks that nobody writes, with their cells. -/
abbrev Mem := Nat → Option (List Value)

mutual
inductive VR (g : List G) (M : Mem) : V → Value → Prop
  | undef (v : Value) : VR g M .undef v
  | bool (b : Bool) : VR g M (.bool b) (.bool b)
  | int (k : IntKind) (n : Int) : k.min ≤ n ∧ n ≤ k.max → VR g M (.int k n) (.int k n)
  | float (k : FloatKind) (b b' : Nat) : b' < 2 * signOf k → b = canon k b' → VR g M (.float k b) (.float k b')
  | str (s : ByteArray) (l : List UInt8) : s.data.toList = l → l.length ≤ 9223372036854775807 → VR g M (.str l) (.string s)
  | agg (vs : List V) (cs : Array Value) : VRs g M vs cs.toList → VR g M (.agg vs) (.agg cs)
  | vecnil (t : Ty) (ad : Option Addr) (cap : Nat) : VR g M (.vec t []) (.slice ad 0 cap)
  | vec (t : Ty) (xs : List t.den) (b off n cap : Nat) (cs : List Value) : M b = some cs → n = xs.length ∧ n ≤ 9223372036854775807 → n ≤ cap →
      (∀ i x, xs[i]? = some x → VRs g M (enc t x) ((cs.drop (off + i * t.size)).take t.size)) →
      VR g M (.vec t xs) (.slice (some ⟨b, off, none⟩) n cap)
  | nils : VR g M .nils (.slice none 0 0)
  | nilp : VR g M .nilp (.pointer none)
  | ref (cells : List V) (b base off o : Nat) (cs : List Value) : M b = some cs → VRs g M cells ((cs.drop base).take cells.length) → o = base + off →
      VR g M (.ref cells off) (.pointer (some ⟨b, o, none⟩))
  | ptr (id off b : Nat) : g[id]? = some (.box b) → VR g M (.ptr id off) (.pointer (some ⟨b, off, none⟩))
  | obj (id ver ver' sz : Nat) (h val : Value) : g[id]? = some (.sl h ver' sz) → ver ≤ ver' → (ver = ver' → val = h) → val.oneCell' = true → VR g M (.obj id ver) val
  | eptr (id ver ver' sz i off b o : Nat) (h : Value) : g[id]? = some (.sl h ver' sz) → ver ≤ ver' →
      (ver = ver' → ∃ n c, h = .slice (some ⟨b, 0, none⟩) n c) → o = i * sz + off → VR g M (.eptr id ver i off) (.pointer (some ⟨b, o, none⟩))
  | bptr (id b : Nat) (buf : Option Nat) : g[id]? = some (.bld b buf) → VR g M (.bptr id) (.pointer (some ⟨b, 0, none⟩))
  | psl (id b : Nat) (t : Ty) (n : Nat) : g[id]? = some (.box b) → n ≤ 9223372036854775807 → VR g M (.psl id t n) (.slice (some ⟨b, 0, none⟩) n n)
  | fn (f : FuncId) (vs : List V) (cs : Array Value) : VRs g M vs cs.toList → VR g M (.fn f vs) (.func (.func f) #[] cs)
  | tuple (vs : List V) (cs : Array Value) : VRs g M vs cs.toList → VR g M (.tuple vs) (.tuple cs)
  | dob (id ver ver' iv sz : Nat) (bs : List Nat) (ih : Nat → Value) (h val : Value) : g[id]? = some (.dp h ver' iv sz bs ih) → ver ≤ ver' → (ver = ver' → val = h) → val.oneCell' = true → VR g M (.dob id ver) val
  | dep (id ver ver' iv sz i off b o : Nat) (bs : List Nat) (ih : Nat → Value) (h : Value) : g[id]? = some (.dp h ver' iv sz bs ih) → ver ≤ ver' →
      (ver = ver' → ∃ n c, h = .slice (some ⟨b, 0, none⟩) n c) → o = i * sz + off → VR g M (.dep id ver i off) (.pointer (some ⟨b, o, none⟩))
  | inn (id iv iv' ver i off sz : Nat) (bs : List Nat) (ih : Nat → Value) (h val : Value) : g[id]? = some (.dp h ver iv' sz bs ih) → iv ≤ iv' → (iv = iv' → val = ih (i * sz + off)) → val.oneCell' = true → VR g M (.inn id iv i off) val
  | empty (b z : Bool) (ad : Option Addr) (cap : Nat) : ad.isNone = b → (z = true → cap = 0) → VR g M (.empty b z) (.slice ad 0 cap)
  | nanb (n : Int) : 0 ≤ n ∧ n ≤ 4294967295 → nan .f32 n.toNat = true → VR g M .nanb (.int .u32 n)
inductive VRs (g : List G) (M : Mem) : List V → List Value → Prop
  | nil : VRs g M [] []
  | cons {v : V} {c : Value} {vs : List V} {cs : List Value} : VR g M v c → VRs g M vs cs → VRs g M (v :: vs) (c :: cs)
end

def Gle : G → G → Prop
  | .box b, .box b' => b = b'
  | .bld b _, .bld b' _ => b = b'
  | .sl h ver sz, .sl h' ver' sz' => sz = sz' ∧ ver ≤ ver' ∧ (ver = ver' → h = h')
  | .dp h ver iv sz _ ih, .dp h' ver' iv' sz' _ ih' => sz = sz' ∧ ver ≤ ver' ∧ (ver = ver' → h = h') ∧ iv ≤ iv' ∧ (iv = iv' → ih = ih')
  | _, _ => False

theorem Gle.refl (x : G) : Gle x x := by cases x <;> simp [Gle]
theorem Gle.trans {x y z : G} (h : Gle x y) (h' : Gle y z) : Gle x z := by
  cases x <;> cases y <;> cases z <;> simp [Gle] at *
  · omega
  · obtain ⟨rfl, a, b⟩ := h
    obtain ⟨rfl, c, d⟩ := h'
    refine ⟨rfl, by omega, fun e => ?_⟩
    rw [b (by omega), d (by omega)]
  · exact h.trans h'
  · obtain ⟨rfl, a, b, p, q⟩ := h
    obtain ⟨rfl, c, d, p', q'⟩ := h'
    refine ⟨rfl, by omega, fun e => ?_, by omega, fun e => ?_⟩
    · rw [b (by omega), d (by omega)]
    · rw [q (by omega), q' (by omega)]

structure Ext (g : List G) (M : Mem) (g' : List G) (M' : Mem) : Prop where
  g : ∀ (id : Nat) (x : G), g[id]? = some x → ∃ x', g'[id]? = some x' ∧ Gle x x'
  m : ∀ (b : Nat) (cs : List Value), M b = some cs → M' b = some cs

theorem Ext.refl (g : List G) (M : Mem) : Ext g M g M := ⟨fun _ x h => ⟨x, h, Gle.refl x⟩, fun _ _ h => h⟩
theorem Ext.trans {g g' g'' : List G} {M M' M'' : Mem} (h : Ext g M g' M') (h' : Ext g' M' g'' M'') : Ext g M g'' M'' :=
  ⟨fun id x hx => by
    obtain ⟨y, hy, l⟩ := h.g id x hx
    obtain ⟨z, hz, l'⟩ := h'.g id y hy
    exact ⟨z, hz, l.trans l'⟩, fun b cs hb => h'.m b cs (h.m b cs hb)⟩

mutual
theorem VR.mono {g g' : List G} {M M' : Mem} (E : Ext g M g' M') : ∀ {v : V} {c : Value}, VR g M v c → VR g' M' v c
  | _, _, .undef v => .undef v
  | _, _, .bool b => .bool b
  | _, _, .int k n h => .int k n h
  | _, _, .float k b b' h h' => .float k b b' h h'
  | _, _, .str s l h h' => .str s l h h'
  | _, _, .agg vs cs h => .agg vs cs (VRs.mono E h)
  | _, _, .vecnil t ad cap => .vecnil t ad cap
  | _, _, .vec t xs b off n cap cs h1 h2 h3 h4 => .vec t xs b off n cap cs (E.m _ _ h1) h2 h3 fun i x hx => VRs.mono E (h4 i x hx)
  | _, _, .nils => .nils
  | _, _, .nilp => .nilp
  | _, _, .ref cells b base off o cs h1 h2 h3 => .ref cells b base off o cs (E.m _ _ h1) (VRs.mono E h2) h3
  | _, _, .ptr id off b h => by
    obtain ⟨x', h', l⟩ := E.g _ _ h
    cases x' with
    | box b' => simp [Gle] at l; subst l; exact .ptr id off b h'
    | sl h ver sz => simp [Gle] at l
    | bld _ _ => simp [Gle] at l
    | dp _ _ _ _ _ _ => simp [Gle] at l
  | _, _, .obj id ver ver' sz h val h1 h2 h3 h4 => by
    obtain ⟨x', h', l⟩ := E.g _ _ h1
    cases x' with
    | box b' => simp [Gle] at l
    | bld _ _ => simp [Gle] at l
    | dp _ _ _ _ _ _ => simp [Gle] at l
    | sl hh ver'' sz' =>
      obtain ⟨rfl, a, b⟩ := l
      refine .obj id ver ver'' sz hh val h' (by omega) (fun e => ?_) h4
      rw [h3 (by omega)]
      exact b (by omega)
  | _, _, .eptr id ver ver' sz i off b o h h1 h2 h3 h4 => by
    obtain ⟨x', h', l⟩ := E.g _ _ h1
    cases x' with
    | box b' => simp [Gle] at l
    | bld _ _ => simp [Gle] at l
    | dp _ _ _ _ _ _ => simp [Gle] at l
    | sl hh ver'' sz' =>
      obtain ⟨rfl, a, bb⟩ := l
      refine .eptr id ver ver'' sz i off b o hh h' (by omega) (fun e => ?_) h4
      rw [← bb (by omega)]
      exact h3 (by omega)
  | _, _, .dob id ver ver' iv sz bs ih h val h1 h2 h3 h4 => by
    obtain ⟨x', h', l⟩ := E.g _ _ h1
    cases x' with
    | box b' => simp [Gle] at l
    | bld _ _ => simp [Gle] at l
    | sl _ _ _ => simp [Gle] at l
    | dp hh ver'' iv'' sz' bs' ih' =>
      obtain ⟨rfl, a, b, _, _⟩ := l
      refine .dob id ver ver'' iv'' sz bs' ih' hh val h' (by omega) (fun e => ?_) h4
      rw [h3 (by omega)]
      exact b (by omega)
  | _, _, .dep id ver ver' iv sz i off b o bs ih h h1 h2 h3 h4 => by
    obtain ⟨x', h', l⟩ := E.g _ _ h1
    cases x' with
    | box b' => simp [Gle] at l
    | bld _ _ => simp [Gle] at l
    | sl _ _ _ => simp [Gle] at l
    | dp hh ver'' iv'' sz' bs' ih' =>
      obtain ⟨rfl, a, bb, _, _⟩ := l
      refine .dep id ver ver'' iv'' sz i off b o bs' ih' hh h' (by omega) (fun e => ?_) h4
      rw [← bb (by omega)]
      exact h3 (by omega)
  | _, _, .inn id iv iv' ver i off sz bs ih h val h1 h2 h3 h4 => by
    obtain ⟨x', h', l⟩ := E.g _ _ h1
    cases x' with
    | box b' => simp [Gle] at l
    | bld _ _ => simp [Gle] at l
    | sl _ _ _ => simp [Gle] at l
    | dp hh ver'' iv'' sz' bs' ih' =>
      obtain ⟨rfl, _, _, a, b⟩ := l
      refine .inn id iv iv'' ver'' i off sz bs' ih' hh val h' (by omega) (fun e => ?_) h4
      rw [h3 (by omega), b (by omega)]
  | _, _, .psl id b t n h hn => by
    obtain ⟨x', h', l⟩ := E.g _ _ h
    cases x' with
    | box b' => simp [Gle] at l; subst l; exact .psl id b t n h' hn
    | sl h ver sz => simp [Gle] at l
    | dp _ _ _ _ _ _ => simp [Gle] at l
    | bld _ _ => simp [Gle] at l
  | _, _, .bptr id b buf h => by
    obtain ⟨x', h', l⟩ := E.g _ _ h
    cases x' with
    | bld b' buf' => simp [Gle] at l; subst l; exact .bptr id b buf' h'
    | sl h ver sz => simp [Gle] at l
    | dp _ _ _ _ _ _ => simp [Gle] at l
    | box _ => simp [Gle] at l
  | _, _, .fn f vs cs h => .fn f vs cs (VRs.mono E h)
  | _, _, .tuple vs cs h => .tuple vs cs (VRs.mono E h)
  | _, _, .nanb n h h' => .nanb n h h'
  | _, _, .empty b z ad cap h h' => .empty b z ad cap h h'
theorem VRs.mono {g g' : List G} {M M' : Mem} (E : Ext g M g' M') : ∀ {vs : List V} {cs : List Value}, VRs g M vs cs → VRs g' M' vs cs
  | _, _, .nil => .nil
  | _, _, .cons h t => .cons (VR.mono E h) (VRs.mono E t)
end

mutual
theorem VR.imm {g g' : List G} {M : Mem} : ∀ {v : V} {c : Value}, VR g M v c → immut v = true → VR g' M v c
  | _, _, .undef v, _ => .undef v
  | _, _, .bool b, _ => .bool b
  | _, _, .int k n h, _ => .int k n h
  | _, _, .float k b b' h h', _ => .float k b b' h h'
  | _, _, .str s l h h', _ => .str s l h h'
  | _, _, .agg vs cs h, i => .agg vs cs (VRs.imm h (by simpa [immut] using i))
  | _, _, .vecnil t ad cap, _ => .vecnil t ad cap
  | _, _, .vec t xs b off n cap cs h1 h2 h3 h4, _ => .vec t xs b off n cap cs h1 h2 h3 fun i x hx => VRs.imm (h4 i x hx) (immuts_enc t x)
  | _, _, .nils, _ => .nils
  | _, _, .nilp, _ => .nilp
  | _, _, .ref cells b base off o cs h1 h2 h3, i => .ref cells b base off o cs h1 (VRs.imm h2 (by simpa [immut] using i)) h3
  | _, _, .ptr id off b h, i => by simp [immut] at i
  | _, _, .obj id ver ver' sz h val h1 h2 h3 h4, i => by simp [immut] at i
  | _, _, .eptr id ver ver' sz j off b o h h1 h2 h3 h4, i => by simp [immut] at i
  | _, _, .bptr id b buf h, i => by simp [immut] at i
  | _, _, .psl id b t n h hn, i => by simp [immut] at i
  | _, _, .dob id ver ver' iv sz bs ih h val h1 h2 h3 h4, i => by simp [immut] at i
  | _, _, .dep id ver ver' iv sz j off b o bs ih h h1 h2 h3 h4, i => by simp [immut] at i
  | _, _, .inn id iv iv' ver j off sz bs ih h val h1 h2 h3 h4, i => by simp [immut] at i
  | _, _, .fn f vs cs h, i => .fn f vs cs (VRs.imm h (by simpa [immut] using i))
  | _, _, .tuple vs cs h, i => .tuple vs cs (VRs.imm h (by simpa [immut] using i))
  | _, _, .nanb n h h', _ => .nanb n h h'
  | _, _, .empty b z ad cap h h', _ => .empty b z ad cap h h'
theorem VRs.imm {g g' : List G} {M : Mem} : ∀ {vs : List V} {cs : List Value}, VRs g M vs cs → immuts vs = true → VRs g' M vs cs
  | _, _, .nil, _ => .nil
  | _, _, .cons h t, i => .cons (VR.imm h (by simp [immuts] at i; exact i.1)) (VRs.imm t (by simp [immuts] at i; exact i.2))
theorem immuts_enc : ∀ (t : Ty) (x : t.den), immuts (enc t x) = true
  | .int k, x => rfl
  | .float k, x => rfl
  | .bool, x => rfl
  | .str, x => rfl
  | .slice t, x => rfl
  | .pair a b, x => by
    have h1 := immuts_enc a x.1
    have h2 := immuts_enc b x.2
    simp only [enc]
    generalize enc a x.1 = l at *
    generalize enc b x.2 = r at *
    induction l with
    | nil => simpa using h2
    | cons y l ih => simp [immuts] at h1 ⊢; exact ⟨h1.1, ih h1.2⟩
  | .unit, x => rfl
end

mutual
theorem VR.flat {g g' : List G} {M M' : Mem} : ∀ {v : V} {c : Value}, VR g M v c → flat v = true → VR g' M' v c
  | _, _, .undef v, _ => .undef v
  | _, _, .bool b, _ => .bool b
  | _, _, .int k n h, _ => .int k n h
  | _, _, .float k b b' h h', _ => .float k b b' h h'
  | _, _, .str s l h h', _ => .str s l h h'
  | _, _, .agg vs cs h, i => .agg vs cs (VRs.flat h (by simpa [Ev.flat] using i))
  | _, _, .vecnil t ad cap, i => by simp [Ev.flat] at i
  | _, _, .vec t xs b off n cap cs h1 h2 h3 h4, i => by simp [Ev.flat] at i
  | _, _, .nils, _ => .nils
  | _, _, .nilp, _ => .nilp
  | _, _, .ref cells b base off o cs h1 h2 h3, i => by simp [Ev.flat] at i
  | _, _, .ptr id off b h, i => by simp [Ev.flat] at i
  | _, _, .obj id ver ver' sz h val h1 h2 h3 h4, i => by simp [Ev.flat] at i
  | _, _, .eptr id ver ver' sz j off b o h h1 h2 h3 h4, i => by simp [Ev.flat] at i
  | _, _, .bptr id b buf h, i => by simp [Ev.flat] at i
  | _, _, .psl id b t n h hn, i => by simp [Ev.flat] at i
  | _, _, .dob id ver ver' iv sz bs ih h val h1 h2 h3 h4, i => by simp [Ev.flat] at i
  | _, _, .dep id ver ver' iv sz j off b o bs ih h h1 h2 h3 h4, i => by simp [Ev.flat] at i
  | _, _, .inn id iv iv' ver j off sz bs ih h val h1 h2 h3 h4, i => by simp [Ev.flat] at i
  | _, _, .fn f vs cs h, i => .fn f vs cs (VRs.flat h (by simpa [Ev.flat] using i))
  | _, _, .tuple vs cs h, i => .tuple vs cs (VRs.flat h (by simpa [Ev.flat] using i))
  | _, _, .nanb n h h', _ => .nanb n h h'
  | _, _, .empty b z ad cap h h', _ => .empty b z ad cap h h'
theorem VRs.flat {g g' : List G} {M M' : Mem} : ∀ {vs : List V} {cs : List Value}, VRs g M vs cs → flats vs = true → VRs g' M' vs cs
  | _, _, .nil, _ => .nil
  | _, _, .cons h t, i => .cons (VR.flat h (by simp [flats] at i; exact i.1)) (VRs.flat t (by simp [flats] at i; exact i.2))
end

/-! ### lists of values -/
section
variable {g : List G} {M : Mem}
theorem VRs.length {vs : List V} {cs : List Value} (h : VRs g M vs cs) : vs.length = cs.length := by
  induction vs generalizing cs with
  | nil => cases h; rfl
  | cons v vs ih => cases h with | cons a b => simp [ih b]
theorem VRs.get {vs : List V} {cs : List Value} (h : VRs g M vs cs) : ∀ {i : Nat} {v : V}, vs[i]? = some v → ∃ c, cs[i]? = some c ∧ VR g M v c := by
  induction vs generalizing cs with
  | nil => intro i v hi; simp at hi
  | cons x vs ih =>
    cases h with
    | cons a b =>
      intro i v hi
      cases i with
      | zero => simp at hi; subst hi; exact ⟨_, rfl, a⟩
      | succ i => simpa using ih b (i := i) (by simpa using hi)
theorem VRs.append {vs us : List V} {cs ds : List Value} (h : VRs g M vs cs) (h' : VRs g M us ds) : VRs g M (vs ++ us) (cs ++ ds) := by
  induction vs generalizing cs with
  | nil => cases h; exact h'
  | cons v vs ih => cases h with | cons a b => exact .cons a (ih b)
theorem VRs.drop {vs : List V} {cs : List Value} (h : VRs g M vs cs) : ∀ n, VRs g M (vs.drop n) (cs.drop n) := by
  induction vs generalizing cs with
  | nil => cases h; intro n; simp; exact .nil
  | cons v vs ih =>
    cases h with
    | cons a b =>
      intro n
      cases n with
      | zero => exact .cons a b
      | succ n => simpa using ih b n
theorem VRs.take {vs : List V} {cs : List Value} (h : VRs g M vs cs) : ∀ n, VRs g M (vs.take n) (cs.take n) := by
  induction vs generalizing cs with
  | nil => cases h; intro n; simp; exact .nil
  | cons v vs ih =>
    cases h with
    | cons a b =>
      intro n
      cases n with
      | zero => simp; exact .nil
      | succ n => simpa using .cons a (ih b n)
theorem VRs.set {vs : List V} {cs : List Value} (h : VRs g M vs cs) {v : V} {c : Value} (hv : VR g M v c) : ∀ n, VRs g M (vs.set n v) (cs.set n c) := by
  induction vs generalizing cs with
  | nil => cases h; intro n; simp; exact .nil
  | cons x vs ih =>
    cases h with
    | cons a b =>
      intro n
      cases n with
      | zero => exact .cons hv b
      | succ n => exact .cons a (ih b n)
theorem VRs.split {vs us : List V} {cs : List Value} (h : VRs g M (vs ++ us) cs) : VRs g M vs (cs.take vs.length) ∧ VRs g M us (cs.drop vs.length) := by
  have h1 := h.take vs.length
  have h2 := h.drop vs.length
  simp at h1 h2
  exact ⟨h1, h2⟩
end

/-- The model's cells with cells put from a place on. -/
def setAtC : List Value → Nat → List Value → List Value
  | cs, _, [] => cs
  | cs, i, v :: vs => setAtC (cs.set i v) (i + 1) vs

theorem setAtC_length : ∀ (vs : List Value) (cs : List Value) (i : Nat), (setAtC cs i vs).length = cs.length
  | [], _, _ => rfl
  | v :: vs, cs, i => by simp [setAtC, setAtC_length vs]
theorem setAt_length : ∀ (vs : List V) (cs : List V) (i : Nat), (setAt cs i vs).length = cs.length
  | [], _, _ => rfl
  | v :: vs, cs, i => by simp [setAt, setAt_length vs]

theorem VRs.setAt {g : List G} {M : Mem} {us : List V} {ds : List Value} (h' : VRs g M us ds) :
    ∀ {vs : List V} {cs : List Value} (_ : VRs g M vs cs) (i : Nat), VRs g M (setAt vs i us) (setAtC cs i ds) := by
  induction us generalizing ds with
  | nil => cases h'; intro vs cs h i; exact h
  | cons u us ih =>
    cases h' with
    | cons a b => intro vs cs h i; exact ih b (h.set a i) (i + 1)

theorem enc_length : ∀ (t : Ty) (x : t.den), (enc t x).length = t.size
  | .int _, _ => rfl
  | .float _, _ => rfl
  | .bool, _ => rfl
  | .str, _ => rfl
  | .slice _, _ => rfl
  | .pair a b, x => by simp [enc, Ty.size, enc_length a, enc_length b]
  | .unit, _ => rfl

/-- What is decoded stands for the same cells. -/
theorem dec_sound {g : List G} {M : Mem} : ∀ (t : Ty) {vs : List V} {x : t.den} {r : List V}, dec t vs = some (x, r) →
    ∀ {cs : List Value}, VRs g M vs cs → VRs g M (enc t x) (cs.take t.size) ∧ VRs g M r (cs.drop t.size) := by
  intro t
  induction t with
  | int k =>
    intro vs x r h cs hc
    cases vs with
    | nil => simp [dec] at h
    | cons v vs =>
      cases v <;> simp [dec] at h
      obtain ⟨rfl, rfl, rfl⟩ := h
      cases hc with | cons a b => exact ⟨.cons a (by simp; exact .nil), by simpa [Ty.size] using b⟩
  | float k =>
    intro vs x r h cs hc
    cases vs with
    | nil => simp [dec] at h
    | cons v vs =>
      cases v <;> simp [dec] at h
      obtain ⟨rfl, rfl, rfl⟩ := h
      cases hc with | cons a b => exact ⟨.cons a (by simp; exact .nil), by simpa [Ty.size] using b⟩
  | bool =>
    intro vs x r h cs hc
    cases vs with
    | nil => simp [dec] at h
    | cons v vs =>
      cases v <;> simp [dec] at h
      obtain ⟨rfl, rfl⟩ := h
      cases hc with | cons a b => exact ⟨.cons a (by simp; exact .nil), by simpa [Ty.size] using b⟩
  | str =>
    intro vs x r h cs hc
    cases vs with
    | nil => simp [dec] at h
    | cons v vs =>
      cases v <;> simp [dec] at h
      obtain ⟨rfl, rfl⟩ := h
      cases hc with | cons a b => exact ⟨.cons a (by simp; exact .nil), by simpa [Ty.size] using b⟩
  | slice t ih =>
    intro vs x r h cs hc
    cases vs with
    | nil => simp [dec] at h
    | cons v vs =>
      cases v <;> simp [dec] at h
      · obtain ⟨⟨rfl, rfl⟩, rfl⟩ := h
        cases hc with | cons a b => exact ⟨.cons a (by simp; exact .nil), by simpa [Ty.size] using b⟩
      · obtain ⟨rfl, rfl⟩ := h
        cases hc with
        | cons a b =>
          cases a
          exact ⟨.cons (.vecnil t none 0) (by simp; exact .nil), by simpa [Ty.size] using b⟩
      · obtain ⟨rfl, rfl⟩ := h
        cases hc with
        | cons a b =>
          cases a with
          | empty _ _ ad cap e => exact ⟨.cons (.vecnil t ad cap) (by simp; exact .nil), by simpa [Ty.size] using b⟩
  | pair a b iha ihb =>
    intro vs x r h cs hc
    simp only [dec] at h
    split at h
    · rename_i y r1 h1
      split at h
      · rename_i z r2 h2
        simp at h
        obtain ⟨rfl, rfl⟩ := h
        obtain ⟨p1, p2⟩ := iha h1 hc
        obtain ⟨q1, q2⟩ := ihb h2 p2
        refine ⟨?_, ?_⟩
        · simp only [enc, Ty.size]
          rw [List.take_add]
          exact p1.append q1
        · simp only [Ty.size]
          rw [← List.drop_drop]
          exact q2
      · simp at h
    · simp at h
  | unit =>
    intro vs x r h cs hc
    simp [dec] at h
    obtain ⟨rfl, rfl⟩ := h
    exact ⟨by simp [enc, Ty.size]; exact .nil, by simpa [Ty.size] using hc⟩

theorem decN_sound {g : List G} {M : Mem} (t : Ty) : ∀ (n : Nat) {vs : List V} {xs : List t.den}, decN t n vs = some xs →
    ∀ {cs : List Value}, VRs g M vs cs → xs.length = n ∧ cs.length = n * t.size ∧ ∀ i x, xs[i]? = some x → VRs g M (enc t x) ((cs.drop (i * t.size)).take t.size) := by
  intro n
  induction n with
  | zero =>
    intro vs xs h cs hc
    cases vs with
    | nil =>
      simp [decN] at h; subst h; cases hc
      exact ⟨rfl, by simp, by intro i x hx; simp at hx⟩
    | cons v vs => simp [decN] at h
  | succ n ih =>
    intro vs xs h cs hc
    simp only [decN] at h
    split at h
    · rename_i y r h1
      split at h
      · rename_i ys h2
        simp at h; subst h
        obtain ⟨p1, p2⟩ := dec_sound t h1 hc
        obtain ⟨q1, q2, q3⟩ := ih h2 p2
        have hl := p1.length
        rw [enc_length, List.length_take] at hl
        simp at q2
        refine ⟨by simp [q1], by rw [Nat.succ_mul]; omega, ?_⟩
        intro i x hx
        cases i with
        | zero => simp at hx; subst hx; simpa using p1
        | succ i =>
          have := q3 i x (by simpa using hx)
          rw [List.drop_drop] at this
          rw [Nat.succ_mul, Nat.add_comm (i * t.size)]
          exact this
      · simp at h
    · simp at h

/-! ### memory -/
/-- None of a row's cells bears a mark. -/
def Clear (n : Nat) (fz : Nat × Nat) : Prop := ∀ i, i < n → ¬ (fz.1 ≤ i ∧ i < fz.2)
/-- .. and no mark behind the last cell either, but for rows of bytes. -/
def ClearT (t : Ty) (n : Nat) (fz : Nat × Nat) : Prop := Clear n fz ∧ (t = .int .u8 ∨ ¬ (fz.1 ≤ n ∧ n < fz.2))
theorem clearT_zero (t : Ty) (n : Nat) : ClearT t n (0, 0) := ⟨fun i _ h => by omega, .inr fun h => by omega⟩
def noM : Mem := fun _ => none
/-- A value that owns its slices, theirs, and so on: its cells, and the blocks in their order. -/
def DC (w : World) : (t : Ty) → t.den → List Value → List Nat → Prop
  | .slice e, xs, cs, bs => ∃ v, cs = [v] ∧ xs.length ≤ 9223372036854775807 ∧ 0 < e.size ∧ ((v = .slice none 0 0 ∧ xs = [] ∧ bs = []) ∨
      ∃ b cap c T fz, ∃ bss : List (List Nat), v = .slice (some ⟨b, 0, none⟩) xs.length cap ∧ w.heap[b]? = some (.cells c T fz) ∧ xs.length ≤ cap ∧ cap * e.size ≤ c.size ∧ ClearT e c.size fz ∧
        bs = b :: bss.flatten ∧ bss.length = xs.length ∧ ∀ i x bi, xs[i]? = some x → bss[i]? = some bi → DC w e x ((c.toList.drop (i * e.size)).take e.size) bi)
  | .pair a b, x, cs, bs => ∃ b1 b2, bs = b1 ++ b2 ∧ DC w a x.1 (cs.take a.size) b1 ∧ DC w b x.2 (cs.drop a.size) b2
  | .int k, x, cs, bs => bs = [] ∧ VRs [] noM (enc (.int k) x) cs
  | .float k, x, cs, bs => bs = [] ∧ VRs [] noM (enc (.float k) x) cs
  | .bool, x, cs, bs => bs = [] ∧ VRs [] noM (enc .bool x) cs
  | .str, x, cs, bs => bs = [] ∧ VRs [] noM (enc .str x) cs
  | .unit, x, cs, bs => bs = [] ∧ VRs [] noM (enc .unit x) cs
/-- Does a slice stand at an element's cell? -/
def spos : Ty → Nat → Bool
  | .slice _, o => Nat.beq o 0
  | .pair a b, o => bif Nat.blt o a.size then spos a o else spos b (o - a.size)
  | _, _ => false

def ObOk (g : List G) (M : Mem) (w : World) : Ob → G → Prop
  | .box cells, .box b => ∃ c T fz, w.heap[b]? = some (.cells c T fz) ∧ VRs g M cells c.toList ∧ Clear c.size fz ∧ M b = none
  | .sl ver t xs, .sl h ver' sz => ver' = ver ∧ sz = t.size ∧ (0 < t.size ∧ xs.length ≤ 9223372036854775807) ∧
      ((h = .slice none 0 0 ∧ xs = []) ∨
       ∃ b cap c T fz, h = .slice (some ⟨b, 0, none⟩) xs.length cap ∧ w.heap[b]? = some (.cells c T fz) ∧ xs.length ≤ cap ∧ cap * t.size ≤ c.size ∧
         (∀ i x, xs[i]? = some x → VRs g M (enc t x) ((c.toList.drop (i * t.size)).take t.size)) ∧ ClearT t c.size fz ∧ M b = none)
  | .fz ver t xs, .sl h ver' sz => ver' = ver ∧ sz = t.size ∧ VR g M (.vec t xs) h
  | .bld T e l, .bld b buf => ∃ p v, w.heap[b]? = some (.cells #[p, v] T (0, 0)) ∧ (p = .pointer none ∨ p = .pointer (some ⟨b, 0, none⟩)) ∧ w.ownsRowF 0 e 1 v l.length (Lib.byteCells l) ∧ v.ownBlock = buf ∧ buf ≠ some b ∧ M b = none ∧ ((∀ c, buf = some c → M c = none) ∧ (l = [] → v = .slice none 0 0))
  | .dp ver iv t xs, .dp h ver' iv' sz bs ih => (ver' = ver ∧ iv' = iv ∧ sz = t.size) ∧ DC w (.slice t) xs [h] bs ∧ bs.Nodup ∧ (∀ b ∈ bs, M b = none) ∧
      (∀ b n cap c T fz, h = .slice (some ⟨b, 0, none⟩) n cap → w.heap[b]? = some (.cells c T fz) → ∀ i o, i < xs.length → o < t.size → spos t o = true → c.toList[i * t.size + o]? = some (ih (i * t.size + o)))
  | .dead, _ => True
  | _, _ => False

/-- The block that an owned thing owns. -/
def ownB : Ob → G → Nat → Prop
  | .box _, .box b, b' => b = b'
  | .sl .., .sl (.slice (some a) _ _) _ _, b' => a.block = b'
  | .bld .., .bld b buf, b' => b = b' ∨ buf = some b'
  | .dp .., .dp _ _ _ _ bs _, b' => b' ∈ bs
  | _, _, _ => False

def Own (H : Heap) (g : List G) (b : Nat) : Prop := ∃ (id : Nat) (o : Ob) (x : G), H[id]? = some o ∧ g[id]? = some x ∧ ownB o x b

def MemOk (M : Mem) (w : World) : Prop := ∀ b cs, M b = some cs → ∃ c T fz, w.heap[b]? = some (.cells c T fz) ∧ c.toList = cs

structure HR (H : Heap) (g : List G) (M : Mem) (w : World) : Prop where
  len : H.length = g.length
  ob : ∀ (id : Nat) (o : Ob) (x : G), H[id]? = some o → g[id]? = some x → ObOk g M w o x
  apart : ∀ (id id' : Nat) (o o' : Ob) (x x' : G) (b : Nat), H[id]? = some o → g[id]? = some x → H[id']? = some o' → g[id']? = some x' →
    ownB o x b → ownB o' x' b → id = id'
  mem : MemOk M w

/-- Things whose numbers keep their meaning: boxes, and slices that are not changed but for their elements. -/
def G.fixed : G → Bool
  | .box _ => true
  | .sl _ ver _ => Nat.beq ver 0
  | .bld _ _ => false
  | .dp _ ver iv _ _ _ => Nat.beq ver 0 && Nat.beq iv 0

/-- What a call's caller owns and the call may write: its blocks; the boxes among the heap's first n things. -/
structure Z where
  own : Nat → Prop
  gx : Nat → G → Prop
  n : Nat
  lt : ∀ id x, gx id x → id < n
  fx : ∀ id x, gx id x → x.fixed = true
def Z.no : Z := ⟨fun _ => False, fun _ _ => False, 0, fun _ _ h => h.elim, fun _ _ h => h.elim⟩
def Z.of (H : Heap) (g : List G) : Z := ⟨Own H g, fun id x => g[id]? = some x ∧ x.fixed = true, g.length, fun id x h => (List.getElem?_eq_some_iff.1 h.1).1, fun _ _ h => h.2⟩

/-- What holds of a call's world against the one in which the call began. -/
structure Base (w0 : World) (M0 : Mem) (own0 : Z) (H : Heap) (g : List G) (M : Mem) (w : World) : Prop where
  size : w0.heap.size ≤ w.heap.size
  keep : ∀ b, b < w0.heap.size → ¬ own0.own b → w.heap[b]? = w0.heap[b]?
  own : ∀ b, Own H g b → own0.own b ∨ w0.heap.size ≤ b
  mle : ∀ b cs, M0 b = some cs → M b = some cs
  mnew : ∀ b cs, M b = some cs → M0 b = some cs ∨ own0.own b ∨ w0.heap.size ≤ b
  os : w.os = w0.os
  tape : w.tape = w0.tape
  output : w.output = w0.output
  gbox : ∀ id x, own0.gx id x → g[id]? = some x

end Go.Ev
