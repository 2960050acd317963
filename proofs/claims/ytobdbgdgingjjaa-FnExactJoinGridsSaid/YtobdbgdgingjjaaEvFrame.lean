/- Calls that act on some of the caller's things, and calls that hand over new ones. -/
import Derived.Test.YtobdbgdgingjjaaEvUse
import Derived.Test.YtobdbgdgingjjaaEvGive
set_option linter.unusedVariables false
set_option linter.unusedSimpArgs false
namespace Go.Ev

/-- One call acts on some of the caller's things (L), and makes others: all else is as it was. -/
theorem glue {H H' : Heap} {g g' : List G} {M Mn : Mem} {w w' : World} {L : Nat → Prop} (hr : HR H g M w)
    (hM : MemOk Mn w') (hle : ∀ b cs, M b = some cs → Mn b = some cs)
    (hnew : ∀ b cs, Mn b = some cs → M b = some cs ∨ (∃ (id : Nat) (o : Ob) (x : G), L id ∧ H[id]? = some o ∧ g[id]? = some x ∧ ownB o x b) ∨ w.heap.size ≤ b)
    (hkeep : ∀ b, b < w.heap.size → ¬ (∃ (id : Nat) (o : Ob) (x : G), L id ∧ H[id]? = some o ∧ g[id]? = some x ∧ ownB o x b) → w'.heap[b]? = w.heap[b]?)
    (hsz : w.heap.size ≤ w'.heap.size) (hos : w'.os = w.os) (htp : w'.tape = w.tape) (hout : w'.output = w.output)
    (hlen : H'.length = g'.length) (hg : ∀ (id : Nat) (x : G), g[id]? = some x → g'[id]? = some x)
    (keys : ∀ (id : Nat) (o : Ob) (x : G), H'[id]? = some o → g'[id]? = some x → (¬ L id ∧ H[id]? = some o ∧ g[id]? = some x) ∨
      (ObOk g' Mn w' o x ∧ (∀ b, ownB o x b → (∃ (id : Nat) (o : Ob) (x : G), L id ∧ H[id]? = some o ∧ g[id]? = some x ∧ ownB o x b) ∨ w.heap.size ≤ b) ∧
        ∀ (id' : Nat) (o' : Ob) (x' : G) (b : Nat), H'[id']? = some o' → g'[id']? = some x' → ownB o x b → ownB o' x' b → id = id' ∨ (¬ L id' ∧ H[id']? = some o' ∧ g[id']? = some x'))) :
    HR H' g' Mn w' ∧ Ext g M g' Mn ∧ Base w M (Z.of H g) H' g' Mn w' := by
  have E : Ext g M g' Mn := ⟨fun id x hx => ⟨x, hg id x hx, Gle.refl x⟩, hle⟩
  have hold : ∀ (id : Nat) (o : Ob) (x : G) (b : Nat), ¬ L id → H[id]? = some o → g[id]? = some x → ownB o x b → b < w.heap.size ∧ w'.heap[b]? = w.heap[b]? ∧ Mn b = none ∧
      ¬ (∃ (id : Nat) (o : Ob) (x : G), L id ∧ H[id]? = some o ∧ g[id]? = some x ∧ ownB o x b) := by
    intro id o x b hL p1 p2 p3
    have hlt := Ev.own_lt (hr.ob id o x p1 p2) p3
    have hno : ¬ (∃ (id : Nat) (o : Ob) (x : G), L id ∧ H[id]? = some o ∧ g[id]? = some x ∧ ownB o x b) := by
      rintro ⟨id', o', x', q0, q1, q2, q3⟩
      have := hr.apart id id' o o' x x' b p1 p2 q1 q2 p3 q3
      subst this
      exact hL q0
    refine ⟨hlt.1, hkeep b hlt.1 hno, ?_, hno⟩
    cases e : Mn b with
    | none => rfl
    | some cs =>
      rcases hnew b cs e with k | k | k
      · rw [hlt.2] at k; cases k
      · exact absurd k hno
      · omega
  refine ⟨⟨hlen, ?_, ?_, hM⟩, E, ⟨hsz, ?_, ?_, hle, ?_, hos, htp, hout, fun id x hx => hg id x hx.1⟩⟩
  · intro id o x h1 h2
    rcases keys id o x h1 h2 with ⟨hL, q1, q2⟩ | ⟨q1, _, _⟩
    · exact (hr.ob id o x q1 q2).frame E fun b hb => ⟨(hold id o x b hL q1 q2 hb).2.1, (hold id o x b hL q1 q2 hb).2.2.1⟩
    · exact q1
  · intro id id' o o' x x' b h1 h2 h3 h4 h5 h6
    rcases keys id o x h1 h2 with ⟨hL, q1, q2⟩ | ⟨_, q2, q3⟩
    · rcases keys id' o' x' h3 h4 with ⟨hL', q1', q2'⟩ | ⟨_, q2', q3'⟩
      · exact hr.apart id id' o o' x x' b q1 q2 q1' q2' h5 h6
      · have := hold id o x b hL q1 q2 h5
        rcases q2' b h6 with k | k
        · exact absurd k this.2.2.2
        · omega
    · rcases q3 id' o' x' b h3 h4 h5 h6 with k | ⟨hL', q1', q2'⟩
      · exact k
      · have := hold id' o' x' b hL' q1' q2' h6
        rcases q2 b h5 with k | k
        · exact absurd k this.2.2.2
        · omega
  · intro b hb hn
    exact hkeep b hb fun ⟨id, o, x, _, q1, q2, q3⟩ => hn ⟨id, o, x, q1, q2, q3⟩
  · rintro b ⟨id, o, x, h1, h2, h3⟩
    rcases keys id o x h1 h2 with ⟨_, q1, q2⟩ | ⟨_, q2, _⟩
    · exact .inl ⟨id, o, x, q1, q2, h3⟩
    · rcases q2 b h3 with ⟨id, o, x, _, q1, q2, q3⟩ | k
      · exact .inl ⟨id, o, x, q1, q2, q3⟩
      · exact .inr k
  · intro b cs hb
    rcases hnew b cs hb with k | ⟨id, o, x, _, q1, q2, q3⟩ | k
    · exact .inl k
    · exact .inr (.inl ⟨id, o, x, q1, q2, q3⟩)
    · exact .inr (.inr k)

/-! ### values with slices that are handed over -/
inductive Po where
  | imm (t : Ty)
  | own (e : Ty)
@[reducible] def Po.den : Po → Type
  | .imm t => t.den
  | .own e => List e.den
@[reducible] def PD : List Po → Type
  | [] => Unit
  | p :: r => p.den × PD r
def encP : (ps : List Po) → PD ps → Nat → List V
  | [], _, _ => []
  | .imm t :: r, x, n => enc t x.1 ++ encP r x.2 n
  | .own _ :: r, x, n => .obj n 0 :: encP r x.2 (n + 1)
def thP : (ps : List Po) → PD ps → Heap
  | [], _ => []
  | .imm _ :: r, x => thP r x.2
  | .own e :: r, x => .sl 0 e x.1 :: thP r x.2
def cntP : List Po → Nat
  | [] => 0
  | .imm _ :: r => cntP r
  | .own _ :: r => cntP r + 1
inductive RT where
  | cell (p : Po)
  | agg (ps : List Po)
@[reducible] def RT.den : RT → Type
  | .cell p => p.den
  | .agg ps => PD ps
@[reducible] def RD : List RT → Type
  | [] => Unit
  | r :: rs => r.den × RD rs
def cntR : RT → Nat
  | .cell (.imm _) => 0
  | .cell (.own _) => 1
  | .agg ps => cntP ps
def valR : (r : RT) → r.den → Nat → V
  | .cell (.imm t), x, _ => (enc t x).headD .undef
  | .cell (.own _), _, n => .obj n 0
  | .agg ps, x, n => .agg (encP ps x n)
def thR : (r : RT) → r.den → Heap
  | .cell (.imm _), _ => []
  | .cell (.own e), xs => [.sl 0 e xs]
  | .agg ps, x => thP ps x
def valRs : (rs : List RT) → RD rs → Nat → List V
  | [], _, _ => []
  | r :: rs, x, n => valR r x.1 n :: valRs rs x.2 (n + cntR r)
def thRs : (rs : List RT) → RD rs → Heap
  | [], _ => []
  | r :: rs, x => thR r x.1 ++ thRs rs x.2
/-- What a function hands over, cell by cell. -/
def giveP : List Po → List (Option Ty)
  | [] => []
  | .imm t :: r => List.replicate t.size none ++ giveP r
  | .own e :: r => some e :: giveP r
def giveR : RT → List (Option Ty)
  | .cell (.imm _) => [none]
  | .cell (.own e) => [some e]
  | .agg ps => giveP ps

def flatTy : Ty → Bool
  | .slice _ => false
  | .pair a b => flatTy a && flatTy b
  | _ => true
def allP (p : Ty → Bool) : List Po → Bool
  | [] => true
  | .imm t :: r => p t && allP p r
  | .own e :: r => p e && allP p r
def atom : Ty → Bool
  | .pair _ _ => false
  | .unit => false
  | _ => true
def allR (p : Ty → Bool) : RT → Bool
  | .cell (.imm t) => p t && atom t
  | .cell (.own e) => p e
  | .agg ps => allP p ps
def allRs (p : Ty → Bool) : List RT → Bool
  | [] => true
  | r :: rs => allR p r && allRs p rs

theorem flats_append : ∀ (a b : List V), flats (a ++ b) = (flats a && flats b)
  | [], b => by simp [flats]
  | v :: a, b => by simp [flats, flats_append a b, Bool.and_assoc]
theorem flats_enc : ∀ (t : Ty) (x : t.den), flatTy t = true → flats (enc t x) = true
  | .int _, _, _ => rfl
  | .float _, _, _ => rfl
  | .bool, _, _ => rfl
  | .str, _, _ => rfl
  | .slice _, _, h => by cases h
  | .pair a b, x, h => by
    simp only [flatTy, Bool.and_eq_true] at h
    simp only [enc, flats_append, flats_enc a x.1 h.1, flats_enc b x.2 h.2, Bool.and_self]
  | .unit, _, _ => rfl

theorem thP_len : ∀ (ps : List Po) (x : PD ps), (thP ps x).length = cntP ps
  | [], _ => rfl
  | .imm _ :: r, x => by simp only [thP, cntP, thP_len r x.2]
  | .own _ :: r, x => by simp only [thP, cntP, List.length_cons, thP_len r x.2]
theorem thR_len : ∀ (r : RT) (x : r.den), (thR r x).length = cntR r
  | .cell (.imm _), _ => rfl
  | .cell (.own _), _ => rfl
  | .agg ps, x => thP_len ps x

section
variable {g1 g' : List G} {M1 Mn : Mem} {p : Ty → Bool} {n : Nat}
theorem encP_shift (hg : ∀ (j : Nat) (y : G), g1[j]? = some y → g'[n + j]? = some y) (hp : ∀ t, p t = true → ∀ (x : t.den) (cs : List Value), VRs g1 M1 (enc t x) cs → VRs g' Mn (enc t x) cs) :
    ∀ (ps : List Po) (x : PD ps) (k : Nat) {cs : List Value}, allP p ps = true → VRs g1 M1 (encP ps x k) cs → VRs g' Mn (encP ps x (n + k)) cs
  | [], _, _, _, _, h => by cases h; exact .nil
  | .imm t :: r, x, k, cs, ha, h => by
    simp only [allP, Bool.and_eq_true] at ha
    simp only [encP] at h ⊢
    obtain ⟨h1, h2⟩ := h.split
    have := (hp t ha.1 x.1 _ h1).append (encP_shift hg hp r x.2 k ha.2 h2)
    rwa [List.take_append_drop] at this
  | .own e :: r, x, k, cs, ha, h => by
    simp only [allP, Bool.and_eq_true] at ha
    simp only [encP] at h ⊢
    cases h with
    | cons a b =>
      refine .cons ?_ (encP_shift hg hp r x.2 (k + 1) ha.2 b)
      cases a with
      | obj _ _ ver' sz hh _ q1 q2 q3 q4 => exact .obj _ _ ver' sz hh _ (hg _ _ q1) q2 q3 q4
theorem valR_shift (hg : ∀ (j : Nat) (y : G), g1[j]? = some y → g'[n + j]? = some y) (hp : ∀ t, p t = true → ∀ (x : t.den) (cs : List Value), VRs g1 M1 (enc t x) cs → VRs g' Mn (enc t x) cs) :
    ∀ (r : RT) (x : r.den) (k : Nat) {c : Value}, allR p r = true → VR g1 M1 (valR r x k) c → VR g' Mn (valR r x (n + k)) c
  | .cell (.imm t), x, k, c, ha, h => by
    simp only [allR, Bool.and_eq_true] at ha
    simp only [valR] at h ⊢
    cases t with
    | int k' => have := hp _ ha.1 x [c] (.cons h .nil); cases this with | cons a _ => exact a
    | float k' => have := hp _ ha.1 x [c] (.cons h .nil); cases this with | cons a _ => exact a
    | bool => have := hp _ ha.1 x [c] (.cons h .nil); cases this with | cons a _ => exact a
    | str => have := hp _ ha.1 x [c] (.cons h .nil); cases this with | cons a _ => exact a
    | slice t' => have := hp _ ha.1 x [c] (.cons h .nil); cases this with | cons a _ => exact a
    | unit => cases ha.2
    | pair a b => cases ha.2
  | .cell (.own e), x, k, c, ha, h => by
    simp only [valR] at h ⊢
    cases h with
    | obj _ _ ver' sz hh _ q1 q2 q3 q4 => exact .obj _ _ ver' sz hh _ (hg _ _ q1) q2 q3 q4
  | .agg ps, x, k, c, ha, h => by
    simp only [valR] at h ⊢
    cases h with
    | agg _ cs hvs => exact .agg _ cs (encP_shift hg hp ps x k ha hvs)
end

theorem valRs_shift {g1 g' : List G} {M1 Mn : Mem} {p : Ty → Bool} {n : Nat} (hg : ∀ (j : Nat) (y : G), g1[j]? = some y → g'[n + j]? = some y) (hp : ∀ t, p t = true → ∀ (x : t.den) (cs : List Value), VRs g1 M1 (enc t x) cs → VRs g' Mn (enc t x) cs) :
    ∀ (rs : List RT) (x : RD rs) (k : Nat) {cs : List Value}, allRs p rs = true → VRs g1 M1 (valRs rs x k) cs → VRs g' Mn (valRs rs x (n + k)) cs
  | [], _, _, _, _, h => by cases h; exact .nil
  | r :: rs, x, k, cs, ha, h => by
    simp only [allRs, Bool.and_eq_true] at ha
    cases h with
    | cons a b =>
      refine .cons (valR_shift hg hp r x.1 k ha.1 a) ?_
      rw [Nat.add_assoc]
      exact valRs_shift hg hp rs x.2 _ ha.2 b
theorem VR_tup {g g' : List G} {M M' : Mem} {vs us : List V} (hl : vs.length = us.length) (h : ∀ cs, VRs g M vs cs → VRs g' M' us cs) {c : Value} (hv : VR g M (tup vs) c) : VR g' M' (tup us) c := by
  match vs, us, hl with
  | [], [], _ => cases hv with | tuple _ cs hvs => exact .tuple _ cs (h _ hvs)
  | [v], [u], _ => cases h [c] (.cons hv .nil) with | cons a _ => exact a
  | _ :: _ :: _, _ :: _ :: _, _ => cases hv with | tuple _ cs hvs => exact .tuple _ cs (h _ hvs)
theorem valRs_len : ∀ (rs : List RT) (x : RD rs) (k : Nat), (valRs rs x k).length = rs.length
  | [], _, _ => rfl
  | r :: rs, x, k => by simp only [valRs, List.length_cons, valRs_len rs x.2]

/-- A thing that is handed over. -/
def Given (p : Ty → Bool) (o : Ob) : Prop := ∃ (e : Ty) (xs : List e.den), o = .sl 0 e xs ∧ p e = true
theorem thP_given {p : Ty → Bool} : ∀ (ps : List Po) (x : PD ps), allP p ps = true → ∀ o ∈ thP ps x, Given p o
  | [], _, _, o, h => by cases h
  | .imm _ :: r, x, ha, o, h => by
    simp only [allP, Bool.and_eq_true] at ha
    exact thP_given r x.2 ha.2 o h
  | .own e :: r, x, ha, o, h => by
    simp only [allP, Bool.and_eq_true] at ha
    simp only [thP, List.mem_cons] at h
    rcases h with rfl | h
    · exact ⟨e, x.1, rfl, ha.1⟩
    · exact thP_given r x.2 ha.2 o h
theorem thRs_given {p : Ty → Bool} : ∀ (rs : List RT) (x : RD rs), allRs p rs = true → ∀ o ∈ thRs rs x, Given p o
  | [], _, _, o, h => by cases h
  | r :: rs, x, ha, o, h => by
    simp only [allRs, Bool.and_eq_true] at ha
    simp only [thRs, List.mem_append] at h
    rcases h with h | h
    · match r, x, ha, h with
      | .cell (.own e), x, ha, h =>
        simp only [thR, List.mem_singleton] at h
        exact ⟨e, x.1, h, ha.1⟩
      | .agg ps, x, ha, h => exact thP_given ps x.1 ha.1 o h
    · exact thRs_given rs x.2 ha.2 o h
theorem ObOk.given {p : Ty → Bool} {g1 g' : List G} {M1 Mn : Mem} {w : World} (hp : ∀ t, p t = true → ∀ (x : t.den) (cs : List Value), VRs g1 M1 (enc t x) cs → VRs g' Mn (enc t x) cs) (hn : ∀ b, M1 b = none → Mn b = none) {o : Ob} (ho : Given p o) {x : G} (h : ObOk g1 M1 w o x) : ObOk g' Mn w o x := by
  obtain ⟨e, xs, rfl, hpe⟩ := ho
  cases x <;> simp only [ObOk] at h ⊢
  obtain ⟨h1, h2, h3, h4⟩ := h
  refine ⟨h1, h2, h3, h4.imp id ?_⟩
  rintro ⟨b, cap, c, T, fz, rfl, k2, k3, k4, k5, k6, k7⟩
  exact ⟨b, cap, c, T, fz, rfl, k2, k3, k4, fun i x hx => hp e hpe _ _ (k5 i x hx), k6, hn b k7⟩

/-- A function that looks, and hands over new things. -/
def semV (l : List AT) (rs : List RT) (gd : ADen l → Bool) (f : ADen l → RD rs) : Sm := fun args H K =>
  bif immuts args then
    match decAs l args with
    | some x => cond (gd x) (K (tup (valRs rs (f x) H.length)) (H ++ thRs rs (f x))) False
    | none => False
  else bif allRs flatTy rs then
    match views3 H args with
    | some args' => match decAs l args' with
      | some x => cond (gd x) (K (tup (valRs rs (f x) H.length)) (H ++ thRs rs (f x))) False
      | none => False
    | none => False
  else False

theorem semV_glue {P : Program} {k : FuncId} {S : Sm} (hS : FnOkO P k S) {args' : List V} {rs : List RT} {y : RD rs} (h : ∀ K : V → Heap → Prop, K (tup (valRs rs y 0)) (thRs rs y) → S args' [] K)
    {w : World} {g : List G} {M Mv : Mem} {H : Heap} (hr : HR H g M w) {cargs : List Value} (ha : VRs [] Mv args' cargs) (hMv : MemOk Mv w) (hGv : GamOk P Mv) (hlv : ∀ b cs, M b = some cs → Mv b = some cs)
    {p : Ty → Bool} (hrs : allRs p rs = true) (hmode : Mv = M ∨ ∀ t, p t = true → flatTy t = true) :
    CallsX P k cargs.toArray w fun val w' => ∃ g' M', VR g' M' (tup (valRs rs y H.length)) val ∧ HR (H ++ thRs rs y) g' M' w' ∧ Ext g M g' M' ∧ Base w M (Z.of H g) (H ++ thRs rs y) g' M' w' := by
  obtain ⟨v, H1, h1, h2, h3⟩ := hS args' [] (fun v hs => v = tup (valRs rs y 0) ∧ hs = thRs rs y) (h _ ⟨rfl, rfl⟩)
  obtain ⟨rfl, rfl⟩ := h1
  have hr1 : HR [] [] Mv w := ⟨rfl, (by intro j o y p1; cases p1), (by intro j j' o o' y y' b p1; cases p1), hMv⟩
  refine (h3 w [] Mv _ ha hr1 hGv).mono ?_
  rintro val w' ⟨g1, M1, q1, q2, q3, q4⟩
  have hno : ∀ b, ¬ Own ([] : Heap) ([] : List G) b := by rintro b ⟨j, o, y, p1, _⟩; cases p1
  have hgn : ∀ (j : Nat) (y : G), g1[j]? = some y → (g ++ g1)[g.length + j]? = some y := fun j y hj => by
    rw [List.getElem?_append_right (by omega), show g.length + j - g.length = j by omega]; exact hj
  -- the memory that stays
  have key : ∃ Mn : Mem, MemOk Mn w' ∧ (∀ b cs, M b = some cs → Mn b = some cs) ∧ (∀ b cs, Mn b = some cs → M b = some cs ∨ w.heap.size ≤ b) ∧ (∀ b, M1 b = none → Mn b = none) ∧
      (∀ t, p t = true → ∀ (x : t.den) (cs : List Value), VRs g1 M1 (enc t x) cs → VRs (g ++ g1) Mn (enc t x) cs) := by
    rcases hmode with rfl | hflat
    · refine ⟨M1, q2.mem, q4.mle, fun b cs hb => ?_, fun _ h => h, fun t _ x cs hx => hx.imm (immuts_enc t x)⟩
      rcases q4.mnew b cs hb with k | k | k
      · exact .inl k
      · exact absurd k (hno b)
      · exact .inr k
    · refine ⟨M, ?_, fun _ _ h => h, fun _ _ h => .inl h, fun b hb => ?_, fun t ht x cs hx => hx.flat (flats_enc t x (hflat t ht))⟩
      · intro b cs hb
        obtain ⟨c, T, fz, k1, k2⟩ := hr.mem b cs hb
        exact ⟨c, T, fz, (q4.keep b (lt_of_cells k1) (hno b)).trans k1, k2⟩
      · cases e : M b with
        | none => rfl
        | some cs => rw [q4.mle b cs (hlv b cs e)] at hb; cases hb
  obtain ⟨Mn, m1, m2, m3, m4, m5⟩ := key
  have hgl := hr.len
  have hcase : ∀ (id : Nat) (o : Ob) (x : G), (H ++ thRs rs y)[id]? = some o → (g ++ g1)[id]? = some x → (id < H.length ∧ H[id]? = some o ∧ g[id]? = some x) ∨ (H.length ≤ id ∧ (thRs rs y)[id - H.length]? = some o ∧ g1[id - H.length]? = some x) := by
    intro id o x p1 p2
    rcases Nat.lt_or_ge id H.length with hl | hl
    · rw [List.getElem?_append_left hl] at p1
      rw [List.getElem?_append_left (by omega)] at p2
      exact .inl ⟨hl, p1, p2⟩
    · rw [List.getElem?_append_right hl] at p1
      rw [List.getElem?_append_right (by omega), ← hgl] at p2
      exact .inr ⟨hl, p1, p2⟩
  obtain ⟨r1, r2, r3⟩ := glue (L := fun _ => False) (H' := H ++ thRs rs y) (g' := g ++ g1) hr m1 m2 (fun b cs hb => (m3 b cs hb).imp id .inr) (fun b hb _ => q4.keep b hb (hno b)) q4.size q4.os q4.tape q4.output
    (by simp [hgl, q2.len]) (fun id x hx => by rw [List.getElem?_append_left (lt_of_get hx)]; exact hx) (by
      intro id o x p1 p2
      rcases hcase id o x p1 p2 with ⟨_, k1, k2⟩ | ⟨hl, k1, k2⟩
      · exact .inl ⟨fun h => h, k1, k2⟩
      · refine .inr ⟨ObOk.given m5 m4 (thRs_given rs y hrs o (List.mem_of_getElem? k1)) (q2.ob _ o x k1 k2), fun b hb => .inr ?_, ?_⟩
        · rcases q4.own b ⟨_, o, x, k1, k2, hb⟩ with k | k
          · exact absurd k (hno b)
          · exact k
        · intro id' o' x' b p3 p4 p5 p6
          rcases hcase id' o' x' p3 p4 with ⟨_, k3, k4⟩ | ⟨hl', k3, k4⟩
          · exact .inr ⟨fun h => h, k3, k4⟩
          · have := q2.apart _ _ o o' x x' b k1 k2 k3 k4 p5 p6
            exact .inl (by omega))
  refine ⟨g ++ g1, Mn, ?_, r1, r2, r3⟩
  have := VR_tup (g := g1) (M := M1) (g' := g ++ g1) (M' := Mn) (vs := valRs rs y 0) (us := valRs rs y (g.length + 0)) (by rw [valRs_len, valRs_len]) (fun cs hcs => valRs_shift hgn m5 rs y 0 hrs hcs) q1
  rw [Nat.add_zero, ← hgl] at this
  exact this

theorem allP_mono {p q : Ty → Bool} (h : ∀ t, p t = true → q t = true) : ∀ ps, allP p ps = true → allP q ps = true
  | [], _ => rfl
  | .imm t :: r, ha => by simp only [allP, Bool.and_eq_true] at ha ⊢; exact ⟨h t ha.1, allP_mono h r ha.2⟩
  | .own t :: r, ha => by simp only [allP, Bool.and_eq_true] at ha ⊢; exact ⟨h t ha.1, allP_mono h r ha.2⟩

theorem fnOkO_give0 {P : Program} {k : FuncId} {S : Sm} (hS : FnOkO P k S) {l : List AT} {rs : List RT} {gd : ADen l → Bool} {f : ADen l → RD rs} (hrs : allRs (fun _ => true) rs = true)
    (h : ∀ (x : ADen l), WfAs l x → gd x = true → ∀ (K : V → Heap → Prop), K (tup (valRs rs (f x) 0)) (thRs rs (f x)) → S (encAs l x) [] K) : FnOkO P k (semV l rs gd f) := by
  intro args H K hk
  unfold semV at hk
  cases hi : immuts args with
  | true =>
    simp only [hi, cond_true] at hk
    split at hk
    · rename_i x hx
      cases hgd : gd x with
      | false => simp only [hgd, cond_false] at hk
      | true =>
        simp only [hgd, cond_true] at hk
        refine ⟨_, _, hk, fun K' h' => by simp only [semV, hi, hx, hgd, cond_true]; exact h', ?_⟩
        intro w g M cargs hv hr hG
        have hwx : WfAs l x := wfAs_of hx hv
        exact semV_glue hS (h x hwx hgd) hr ((decAs_sound hx hv).imm (immuts_encAs l x)) hr.mem hG (fun _ _ h => h) hrs (.inl rfl)
    · exact hk.elim
  | false =>
    simp only [hi, cond_false] at hk
    cases hf : allRs flatTy rs with
    | false => simp only [hf, cond_false] at hk
    | true =>
      simp only [hf, cond_true] at hk
      split at hk
      · rename_i args' hv'
        split at hk
        · rename_i x hx
          cases hgd : gd x with
          | false => simp only [hgd, cond_false] at hk
          | true =>
            simp only [hgd, cond_true] at hk
            refine ⟨_, _, hk, fun K' h' => by simp only [semV, hi, hf, hv', hx, hgd, cond_true, cond_false]; exact h', ?_⟩
            intro w g M cargs hv hr hG
            have hvv := views3_sound hr hv hv'
            have hwx : WfAs l x := wfAs_of hx hvv
            exact semV_glue hS (h x hwx hgd) hr ((decAs_sound hx hvv).imm (immuts_encAs l x)) (memAll_ok hr) (hG.mono (memAll_le H g M w)) (memAll_le H g M w) hf (.inr fun _ h => h)
        · exact hk.elim
      · exact hk.elim
theorem semV_local (l : List AT) (rs : List RT) (gd : ADen l → Bool) (f : ADen l → RD rs) : LocalS (semV l rs gd f) := by
  intro id off r H K hk
  unfold semV at hk ⊢
  cases hi : immuts (.ptr id off :: r) with
  | true => simp [immuts, immut] at hi
  | false =>
    simp only [hi, cond_false] at hk ⊢
    cases hf : allRs flatTy rs with
    | false => simp only [hf, cond_false] at hk
    | true =>
      simp only [hf, cond_true] at hk ⊢
      split at hk
      · rename_i args' hv'
        split at hk
        · rename_i x hx
          cases hgd : gd x with
          | false => simp only [hgd, cond_false] at hk
          | true =>
            simp only [hgd, cond_true] at hk ⊢
            exact ⟨hk, .app _ _ _⟩
        · exact hk.elim
      · exact hk.elim
theorem fnOkO_give {P : Program} {k : FuncId} {S : Sm} (hS : FnOkO P k S) {l : List AT} {rs : List RT} {gd : ADen l → Bool} {f : ADen l → RD rs} (hrs : allRs (fun _ => true) rs = true)
    (h : ∀ (x : ADen l), WfAs l x → gd x = true → ∀ (K : V → Heap → Prop), K (tup (valRs rs (f x) 0)) (thRs rs (f x)) → S (encAs l x) [] K) : FnOkL P k (semV l rs gd f) := ⟨fnOkO_give0 hS hrs h, semV_local _ _ _ _⟩

theorem encP_from {g g' : List G} {M : Mem} {n : Nat} (hg : ∀ (j : Nat) (y : G), n ≤ j → g[j]? = some y → g'[j]? = some y) : ∀ (ps : List Po) (x : PD ps) (k : Nat) {cs : List Value}, n ≤ k → VRs g M (encP ps x k) cs → VRs g' M (encP ps x k) cs
  | [], _, _, _, _, h => by cases h; exact .nil
  | .imm t :: r, x, k, cs, hk, h => by
    simp only [encP] at h ⊢
    obtain ⟨h1, h2⟩ := h.split
    have := (h1.imm (g' := g') (immuts_enc t x.1)).append (encP_from hg r x.2 k hk h2)
    rwa [List.take_append_drop] at this
  | .own e :: r, x, k, cs, hk, h => by
    simp only [encP] at h ⊢
    cases h with
    | cons a b =>
      refine .cons ?_ (encP_from hg r x.2 (k + 1) (by omega) b)
      cases a with
      | obj _ _ ver' sz hh _ q1 q2 q3 q4 => exact .obj _ _ ver' sz hh _ (hg _ _ hk q1) q2 q3 q4
theorem valRs_from {g g' : List G} {M : Mem} {n : Nat} (hg : ∀ (j : Nat) (y : G), n ≤ j → g[j]? = some y → g'[j]? = some y) : ∀ (rs : List RT) (x : RD rs) (k : Nat) {cs : List Value}, n ≤ k → VRs g M (valRs rs x k) cs → VRs g' M (valRs rs x k) cs
  | [], _, _, _, _, h => by cases h; exact .nil
  | r :: rs, x, k, cs, hk, h => by
    simp only [valRs] at h ⊢
    cases h with
    | cons a b =>
      refine .cons ?_ (valRs_from hg rs x.2 _ (by omega) b)
      match r, x, a with
      | .cell (.imm t), x, a =>
        simp only [valR] at a ⊢
        refine a.imm ?_
        have := immuts_enc t x.1
        cases e : enc t x.1 with
        | nil => rfl
        | cons v vs => rw [e] at this; simp only [immuts, Bool.and_eq_true] at this; exact this.1
      | .cell (.own e), x, a =>
        simp only [valR] at a ⊢
        cases a with
        | obj _ _ ver' sz hh _ q1 q2 q3 q4 => exact .obj _ _ ver' sz hh _ (hg _ _ hk q1) q2 q3 q4
      | .agg ps, x, a =>
        simp only [valR] at a ⊢
        cases a with
        | agg _ cs hvs => exact .agg _ cs (encP_from hg ps x.1 k hk hvs)

/-- A function that writes a box and hands over new things. -/
def semPG (t : Ty) (l : List AT) (rs : List RT) (gd : t.den → ADen l → Bool) (f : t.den → ADen l → RD rs × t.den) : Sm := fun args H K =>
  match args with
  | .ptr id off :: r =>
    match H[id]? with
    | some (.box cells) =>
      match dec t cells with
      | some (s, []) =>
        match decAs l r with
        | some x => bif Nat.beq off 0 then cond (gd s x) (K (tup (valRs rs (f s x).1 H.length)) (H.set id (.box (enc t (f s x).2)) ++ thRs rs (f s x).1)) False else False
        | none => False
      | _ => False
    | _ => False
  | _ => False

theorem fnOkO_boxg0 {P : Program} {k : FuncId} {S : Sm} (hS : FnOkO P k S) {t : Ty} {l : List AT} {rs : List RT} {gd : t.den → ADen l → Bool} {f : t.den → ADen l → RD rs × t.den} (hrs : allRs (fun _ => true) rs = true)
    (h : ∀ (s : t.den) (x : ADen l), Wf t s → WfAs l x → gd s x = true → ∀ (K : V → Heap → Prop), K (tup (valRs rs (f s x).1 1)) (.box (enc t (f s x).2) :: thRs rs (f s x).1) → S (.ptr 0 0 :: encAs l x) [.box (enc t s)] K) : FnOkO P k (semPG t l rs gd f) := by
  intro args H K hk
  simp only [semPG] at hk
  split at hk
  · rename_i id off r
    split at hk
    · rename_i cells hid
      split at hk
      · rename_i s hd
        split at hk
        · rename_i x hx
          cases hoff : Nat.beq off 0 with
          | false => simp only [hoff, cond_false] at hk
          | true =>
            simp only [hoff, cond_true] at hk
            cases hgd : gd s x with
            | false => simp only [hgd, cond_false] at hk
            | true =>
            simp only [hgd, cond_true] at hk
            refine ⟨_, _, hk, fun K' h' => by simp only [semPG, hid, hd, hx, hoff, hgd, cond_true]; exact h', ?_⟩
            replace hoff := beq_true hoff
            subst hoff
            intro w g M cargs hv hr hG
            cases hv with
            | cons hp hrest =>
            cases hp with
            | ptr _ _ b hb =>
            have hob := hr.ob id _ _ hid hb
            simp only [ObOk] at hob
            obtain ⟨c, T, fz, k1, k2, k3, k4⟩ := hob
            obtain ⟨d1, d2⟩ := dec_sound t hd k2
            have hcl : c.toList.length = t.size := by
              have := d2.length
              have := d1.length
              rw [enc_length] at this
              simp at *
              omega
            have d1' : VRs g M (enc t s) c.toList := by rwa [List.take_of_length_le (by omega)] at d1
            have hws : Wf t s := wf_of_VRs t s d1'
            have hwx : WfAs l x := wfAs_of hx hrest
            generalize hys : (f s x).1 = ys at *
            generalize hs' : (f s x).2 = s' at *
            obtain ⟨v, H1, h1, h2, h3⟩ := hS (.ptr 0 0 :: encAs l x) [.box (enc t s)] (fun v hs => v = tup (valRs rs ys 1) ∧ hs = .box (enc t s') :: thRs rs ys) (h s x hws hwx hgd _ ⟨by rw [hys], by rw [hys, hs']⟩)
            obtain ⟨rfl, rfl⟩ := h1
            have hr1 : HR [.box (enc t s)] [.box b] M w := by
              refine ⟨rfl, ?_, ?_, hr.mem⟩
              · intro j o y p1 p2
                match j, p1, p2 with
                | 0, p1, p2 => cases p1; cases p2; exact ⟨c, T, fz, k1, d1'.imm (immuts_enc t s), k3, k4⟩
              · intro j j' o o' y y' b' p1 p2 p3 p4 _ _
                match j, j', p1, p3 with
                | 0, 0, _, _ => rfl
            refine (h3 w [.box b] M _ (.cons (.ptr 0 0 b rfl) ((decAs_sound hx hrest).imm (immuts_encAs l x))) hr1 hG).mono ?_
            rintro val w' ⟨g1, M1, q1, q2, q3, q4⟩
            have hown1 : ∀ b', Own [.box (enc t s)] [.box b] b' → b' = b := fun b' hb' => own_one hb'
            have hL : ∀ b', Own [.box (enc t s)] [.box b] b' → ∃ (i : Nat) (o : Ob) (x : G), i = id ∧ H[i]? = some o ∧ g[i]? = some x ∧ ownB o x b' := by
              intro b' hb'
              have := hown1 b' hb'
              subst this
              exact ⟨id, _, _, rfl, hid, hb, rfl⟩
            have hg10 : g1[0]? = some (.box b) := q4.gbox 0 (.box b) ⟨rfl, rfl⟩
            have hg1l : g1.length = (thRs rs ys).length + 1 := by rw [← q2.len]; rfl
            have hgl := hr.len
            have hlt : id < H.length := lt_of_get hid
            have hcase : ∀ (j : Nat) (o : Ob) (x : G), (H.set id (.box (enc t s')) ++ thRs rs ys)[j]? = some o → (g ++ g1.drop 1)[j]? = some x →
                (j ≠ id ∧ j < H.length ∧ H[j]? = some o ∧ g[j]? = some x) ∨ (j = id ∧ o = .box (enc t s') ∧ x = .box b) ∨ (H.length ≤ j ∧ (thRs rs ys)[j - H.length]? = some o ∧ g1[j - H.length + 1]? = some x) := by
              intro j o x p1 p2
              rcases Nat.lt_or_ge j H.length with hl | hl
              · rw [List.getElem?_append_left (by simpa using hl)] at p1
                rw [List.getElem?_append_left (by omega)] at p2
                by_cases e : j = id
                · subst e
                  rw [List.getElem?_set_self hl] at p1
                  cases p1
                  rw [hb] at p2; cases p2
                  exact .inr (.inl ⟨rfl, rfl, rfl⟩)
                · rw [List.getElem?_set_ne (fun e' => e e'.symm)] at p1
                  exact .inl ⟨e, hl, p1, p2⟩
              · rw [List.getElem?_append_right (by simpa using hl)] at p1
                rw [List.getElem?_append_right (by omega), ← hgl, List.getElem?_drop, Nat.add_comm 1] at p2
                simp only [List.length_set] at p1
                exact .inr (.inr ⟨hl, p1, p2⟩)
            have hgn : ∀ (j : Nat) (y : G), 1 ≤ j → g1[j]? = some y → (g ++ g1.drop 1)[g.length - 1 + j]? = some y := fun j y hj1 hj => by
              rw [List.getElem?_append_right (by omega), List.getElem?_drop, show 1 + (g.length - 1 + j - g.length) = j by omega]; exact hj
            obtain ⟨r1, r2, r3⟩ := glue (L := fun i => i = id) (H' := H.set id (.box (enc t s')) ++ thRs rs ys) (g' := g ++ g1.drop 1) (w' := w') (Mn := M1) hr q2.mem q4.mle
              (fun b' cs hb' => by
                rcases q4.mnew b' cs hb' with k | k | k
                · exact .inl k
                · exact .inr (.inl (hL b' k))
                · exact .inr (.inr k))
              (fun b' hb' hn => q4.keep b' hb' fun ho => hn (hL b' ho)) q4.size q4.os q4.tape q4.output (by simp [hgl, hg1l]) (fun i x hx => by rw [List.getElem?_append_left (lt_of_get hx)]; exact hx) (by
                intro j o x p1 p2
                rcases hcase j o x p1 p2 with ⟨hne, _, k1, k2⟩ | ⟨rfl, rfl, rfl⟩ | ⟨hl, k1, k2⟩
                · exact .inl ⟨hne, k1, k2⟩
                · have hob1 := q2.ob 0 _ _ rfl hg10
                  simp only [ObOk] at hob1
                  obtain ⟨c', T', fz', m1, m2, m3, m4⟩ := hob1
                  refine .inr ⟨⟨c', T', fz', m1, m2.imm (immuts_enc t _), m3, m4⟩, fun b' hb' => .inl ?_, ?_⟩
                  · simp only [ownB] at hb'
                    subst hb'
                    exact ⟨j, _, _, rfl, hid, hb, rfl⟩
                  · intro j' o' x' b' p3 p4 p5 p6
                    simp only [ownB] at p5
                    subst p5
                    rcases hcase j' o' x' p3 p4 with ⟨hne', _, k3, k4⟩ | ⟨rfl, _, _⟩ | ⟨hl', k3, k4⟩
                    · exact .inr ⟨hne', k3, k4⟩
                    · exact .inl rfl
                    · exfalso
                      have := q2.apart 0 (j' - H.length + 1) _ o' _ x' b rfl hg10 (by simpa using k3) k4 rfl p6
                      omega
                · have hk1 : (Ob.box (enc t s') :: thRs rs ys)[j - H.length + 1]? = some o := by simpa using k1
                  refine .inr ⟨ObOk.given (p := fun _ => true) (g1 := g1) (M1 := M1) (fun t _ x cs hx => hx.imm (immuts_enc t x)) (fun _ h => h) (thRs_given rs ys hrs o (List.mem_of_getElem? k1)) (q2.ob _ o x hk1 k2), fun b' hb' => ?_, ?_⟩
                  · rcases q4.own b' ⟨_, o, x, hk1, k2, hb'⟩ with k | k
                    · exact .inl (hL b' k)
                    · exact .inr k
                  · intro j' o' x' b' p3 p4 p5 p6
                    rcases hcase j' o' x' p3 p4 with ⟨hne', _, k3, k4⟩ | ⟨rfl, rfl, rfl⟩ | ⟨hl', k3, k4⟩
                    · exact .inr ⟨hne', k3, k4⟩
                    · exfalso
                      have := q2.apart 0 (j - H.length + 1) _ o _ x b' rfl hg10 hk1 k2 p6 p5
                      omega
                    · have := q2.apart _ _ o o' x x' b' hk1 k2 (show (Ob.box (enc t s') :: thRs rs ys)[j' - H.length + 1]? = some o' by simpa using k3) k4 p5 p6
                      exact .inl (by omega))
            refine ⟨g ++ g1.drop 1, M1, ?_, r1, r2, r3⟩
            have hpos : 0 < H.length := by omega
            -- the results' numbers begin behind the box
            have := VR_tup (g := g1) (M := M1) (g' := g ++ g1.drop 1) (M' := M1) (vs := valRs rs ys 1) (us := valRs rs ys H.length) (by rw [valRs_len, valRs_len]) (fun cs hcs => ?_) q1
            · exact this
            · have hsh := valRs_shift (g1 := .box b :: g1.drop 1) (n := H.length - 1) (g' := (List.replicate (H.length - 1) (G.box b)) ++ (.box b :: g1.drop 1)) (M1 := M1) (Mn := M1) (p := fun _ => true) (fun j y hj => by
                rw [List.getElem?_append_right (by simp), List.length_replicate, Nat.add_sub_cancel_left]; exact hj) (fun t _ x cs hx => hx.imm (immuts_enc t x)) rs ys 1 (cs := cs) hrs
              have hg1e : G.box b :: g1.drop 1 = g1 := by
                cases g1 with
                | nil => cases hg10
                | cons y r => simp at hg10; subst hg10; rfl
              rw [hg1e] at hsh
              have h5 := hsh hcs
              rw [show H.length - 1 + 1 = H.length by omega] at h5
              -- only numbers from there on are spoken of
              exact valRs_from (n := H.length) (fun j y hj hy => by
                rw [List.getElem?_append_right (by simp; omega), List.length_replicate] at hy
                have := hgn (j - (H.length - 1)) y (by omega) hy
                rw [show g.length - 1 + (j - (H.length - 1)) = j by omega] at this
                exact this) rs ys H.length (Nat.le_refl _) h5
        · exact hk.elim
      · exact hk.elim
    · exact hk.elim
  · exact hk.elim
theorem semPG_local (t : Ty) (l : List AT) (rs : List RT) (gd : t.den → ADen l → Bool) (f : t.den → ADen l → RD rs × t.den) : LocalS (semPG t l rs gd f) := by
  intro id off r H K h
  simp only [semPG] at h ⊢
  split at h
  · rename_i cells hid
    split at h
    · rename_i s hd
      split at h
      · rename_i x hx
        cases hi : Nat.beq off 0 with
        | false => simp only [hi, cond_false] at h
        | true =>
          cases hg : gd s x with
          | false => simp only [hi, hg, cond_true, cond_false] at h
          | true =>
            simp only [hi, hg, cond_true] at h
            simp only [hid, hd, hx, hi, hg, cond_true]
            exact ⟨h, (BoxesStay.set _ _ _).trans (.app _ _ _)⟩
      · exact h.elim
    · exact h.elim
  · exact h.elim
theorem fnOkO_boxg {P : Program} {k : FuncId} {S : Sm} (hS : FnOkO P k S) {t : Ty} {l : List AT} {rs : List RT} {gd : t.den → ADen l → Bool} {f : t.den → ADen l → RD rs × t.den} (hrs : allRs (fun _ => true) rs = true)
    (h : ∀ (s : t.den) (x : ADen l), Wf t s → WfAs l x → gd s x = true → ∀ (K : V → Heap → Prop), K (tup (valRs rs (f s x).1 1)) (.box (enc t (f s x).2) :: thRs rs (f s x).1) → S (.ptr 0 0 :: encAs l x) [.box (enc t s)] K) : FnOkL P k (semPG t l rs gd f) :=
  ⟨fnOkO_boxg0 hS hrs h, semPG_local _ _ _ _ _⟩

/-! ### calls that write their caller's slices in place -/
/-- A value's parts; its own slices by their numbers. -/
def decP (H : Heap) : (ps : List Po) → List V → Option (PD ps × List Nat)
  | [], [] => some ((), [])
  | [], _ :: _ => none
  | .imm t :: r, vs => match dec t vs with
    | some (x, vs') => match decP H r vs' with
      | some (y, L) => some ((x, y), L)
      | none => none
    | none => none
  | .own _ :: _, [] => none
  | .own e :: r, v :: vs => match v with
    | .obj id ver => match H[id]? with
      | some (.sl ver' t xs) => bif Nat.beq ver ver' then (if h : t = e then (match decP H r vs with
        | some (y, L) => some ((h ▸ xs, y), id :: L)
        | none => none) else none) else none
      | _ => none
    | _ => none
def verAt (H : Heap) (id : Nat) : Nat := match H[id]? with | some (.sl ver _ _) => ver | _ => 0
def reV (ver : Nat) : Ob → Ob
  | .sl _ e xs => .sl ver e xs
  | o => o
def putL (H : Heap) : List Nat → Heap → Heap
  | [], _ => H
  | _ :: _, [] => H
  | id :: L, o :: r => (putL H L r).set id (reV (verAt H id) o)
def encI (H : Heap) : (ps : List Po) → PD ps → List Nat → List V
  | [], _, _ => []
  | .imm t :: r, x, L => enc t x.1 ++ encI H r x.2 L
  | .own _ :: r, x, id :: L => .obj id (verAt H id) :: encI H r x.2 L
  | .own _ :: r, x, [] => .undef :: encI H r x.2 []
def nodupB : List Nat → Bool
  | [] => true
  | x :: r => (r.all fun y => !Nat.beq x y) && nodupB r
def cellsM (ag : Bool) (v : V) : Option (List V) := bif ag then (match v with | .agg vs => some vs | _ => none) else some [v]
def ofCells (ag : Bool) (vs : List V) : V := bif ag then .agg vs else vs.headD .undef

theorem nodupB_ok : ∀ {L : List Nat}, nodupB L = true → L.Nodup
  | [], _ => .nil
  | x :: r, h => by
    simp only [nodupB, Bool.and_eq_true, List.all_eq_true, Bool.not_eq_true'] at h
    refine List.nodup_cons.2 ⟨fun hx => ?_, nodupB_ok h.2⟩
    have := h.1 x hx
    rw [Nat.beq_refl] at this
    cases this

theorem decP_things {H : Heap} : ∀ {ps : List Po} {vs : List V} {s : PD ps} {L : List Nat}, decP H ps vs = some (s, L) → L.length = cntP ps ∧
    ∀ (k : Nat) (o : Ob), (thP ps s)[k]? = some o → ∃ (id ver : Nat) (e : Ty) (xs : List e.den), L[k]? = some id ∧ H[id]? = some (.sl ver e xs) ∧ o = .sl 0 e xs
  | [], [], s, L, h => by simp only [decP] at h; cases h; exact ⟨rfl, by intro k o hk; simp [thP] at hk⟩
  | [], _ :: _, _, _, h => by simp only [decP] at h; cases h
  | .imm t :: r, vs, s, L, h => by
    simp only [decP] at h
    split at h
    · split at h
      · rename_i y L' h2
        cases h
        exact decP_things (ps := r) h2
      · cases h
    · cases h
  | .own e :: r, [], s, L, h => by simp only [decP] at h; cases h
  | .own e :: r, v :: vs, s, L, h => by
    simp only [decP] at h
    split at h
    · rename_i id ver
      split at h
      · rename_i ver' t xs hid
        cases hb : Nat.beq ver ver' with
        | false => simp only [hb, cond_false] at h; cases h
        | true =>
          simp only [hb, cond_true] at h
          split at h
          · rename_i ht
            subst ht
            split at h
            · rename_i y L' h2
              cases h
              obtain ⟨h3, h4⟩ := decP_things (ps := r) h2
              refine ⟨by simp only [List.length_cons, cntP, h3], fun k o hk => ?_⟩
              cases k with
              | zero => simp [thP] at hk; subst hk; exact ⟨id, ver', t, xs, rfl, hid, rfl⟩
              | succ k =>
                simp only [thP, List.getElem?_cons_succ] at hk
                simpa using h4 k o hk
            · cases h
          · cases h
      · cases h
    · cases h

theorem decP_sound {H : Heap} {g gc : List G} {M : Mem} {w : World} (hr : HR H g M w) : ∀ {ps : List Po} {vs : List V} {s : PD ps} {L : List Nat} {n : Nat} {cs : List Value}, decP H ps vs = some (s, L) → VRs g M vs cs →
    (∀ k id, L[k]? = some id → gc[n + k]? = some (gAt g id)) → VRs gc M (encP ps s n) cs
  | [], [], s, L, n, cs, h, hv, hg => by cases hv; exact .nil
  | [], _ :: _, _, _, _, _, h, _, _ => by simp only [decP] at h; cases h
  | .imm t :: r, vs, s, L, n, cs, h, hv, hg => by
    simp only [decP] at h
    split at h
    · rename_i x vs' hd
      split at h
      · rename_i y L' h2
        cases h
        obtain ⟨d1, d2⟩ := dec_sound t hd hv
        have := (d1.imm (g' := gc) (immuts_enc t x)).append (decP_sound hr (ps := r) h2 d2 hg)
        rwa [List.take_append_drop] at this
      · cases h
    · cases h
  | .own e :: r, [], s, L, _, _, h, _, _ => by simp only [decP] at h; cases h
  | .own e :: r, v :: vs, s, L, n, cs, h, hv, hg => by
    simp only [decP] at h
    split at h
    · rename_i id ver
      split at h
      · rename_i ver' t xs hid
        cases hb : Nat.beq ver ver' with
        | false => simp only [hb, cond_false] at h; cases h
        | true =>
          simp only [hb, cond_true] at h
          split at h
          · rename_i ht
            subst ht
            split at h
            · rename_i y L' h2
              cases h
              cases hv with
              | cons a b =>
                refine .cons ?_ (decP_sound hr (ps := r) (n := n + 1) h2 b fun k id' hk => ?_)
                · cases a with
                  | obj _ _ ver2 sz hh _ q1 q2 q3 q4 =>
                    have ho := hr.ob id _ _ hid q1
                    simp only [ObOk] at ho
                    have h0 := hg 0 id rfl
                    simp only [gAt, q1, G.again, Nat.add_zero] at h0
                    exact .obj n 0 0 sz hh _ h0 (Nat.le_refl _) (fun _ => q3 (by rw [ho.1]; exact beq_true hb)) q4
                · have := hg (k + 1) id' (by simpa using hk)
                  rw [show n + (k + 1) = n + 1 + k by omega] at this
                  exact this
            · cases h
          · cases h
      · cases h
    · cases h

theorem ownB_sl (v v' a a' sz sz' : Nat) (e e' : Ty) (xs : List e.den) (xs' : List e'.den) (h : Value) (b : Nat) : ownB (.sl v e xs) (.sl h a sz) b ↔ ownB (.sl v' e' xs') (.sl h a' sz') b := by
  cases h <;> try exact Iff.rfl
  rename_i ad _ _
  cases ad <;> exact Iff.rfl
theorem putL_len (H : Heap) : ∀ (L : List Nat) (r : Heap), (putL H L r).length = H.length
  | [], _ => rfl
  | _ :: _, [] => rfl
  | id :: L, o :: r => by simp only [putL, List.length_set, putL_len H L r]
theorem putL_get {H : Heap} : ∀ {L : List Nat} {r : Heap} {j : Nat} {o : Ob}, (putL H L r)[j]? = some o → (j ∉ L ∧ H[j]? = some o) ∨ (∃ (k : Nat) (o' : Ob), L[k]? = some j ∧ r[k]? = some o' ∧ o = reV (verAt H j) o') ∨ (r.length < L.length)
  | [], _, j, o, h => .inl ⟨by simp, h⟩
  | _ :: _, [], j, o, h => .inr (.inr (by simp))
  | id :: L, o' :: r, j, o, h => by
    simp only [putL] at h
    by_cases e : id = j
    · subst e
      have hl : id < (putL H L r).length := by
        rcases Nat.lt_or_ge id (putL H L r).length with k | k
        · exact k
        · rw [List.getElem?_eq_none (by simpa using k)] at h; cases h
      rw [List.getElem?_set_self hl] at h
      cases h
      exact .inr (.inl ⟨0, o', rfl, rfl, rfl⟩)
    · rw [List.getElem?_set_ne e] at h
      rcases putL_get h with ⟨h1, h2⟩ | ⟨k, o2, h1, h2, h3⟩ | h1
      · exact .inl ⟨fun hm => (List.mem_cons.1 hm).elim (fun k => e k.symm) h1, h2⟩
      · exact .inr (.inl ⟨k + 1, o2, by simpa using h1, by simpa using h2, h3⟩)
      · exact .inr (.inr (by simpa using h1))

/-- The things that a call acts on, with their owners. -/
theorem inPlace {H H1 H' Hc : Heap} {g g1 gc : List G} {M M1 : Mem} {w w' : World} {L : Nat → Prop} (hr : HR H g M w) (q2 : HR H1 g1 M1 w') (q4 : Base w M (Z.of Hc gc) H1 g1 M1 w') (hlen : H'.length = H.length)
    (hc : ∀ b, Own Hc gc b → ∃ (id : Nat) (o : Ob) (x : G), L id ∧ H[id]? = some o ∧ g[id]? = some x ∧ ownB o x b)
    (hs : ∀ (id : Nat) (o' : Ob) (x : G), H'[id]? = some o' → g[id]? = some x → (¬ L id ∧ H[id]? = some o') ∨ (∃ o, L id ∧ H[id]? = some o ∧ (∀ b, ownB o' x b → ownB o x b) ∧ ObOk g M1 w' o' x)) :
    HR H' g M1 w' ∧ Ext g M g M1 ∧ Base w M (Z.of H g) H' g M1 w' := by
  refine glue (L := L) hr q2.mem q4.mle ?_ (fun b hb hn => q4.keep b hb fun ho => hn (hc b ho)) q4.size q4.os q4.tape q4.output (by rw [hlen, hr.len]) (fun _ _ h => h) ?_
  · intro b cs hb
    rcases q4.mnew b cs hb with k | k | k
    · exact .inl k
    · exact .inr (.inl (hc b k))
    · exact .inr (.inr k)
  · intro id o' x h1 h2
    rcases hs id o' x h1 h2 with ⟨k1, k2⟩ | ⟨o, k1, k2, k3, k4⟩
    · exact .inl ⟨k1, k2, h2⟩
    · refine .inr ⟨k4, fun b hb => .inl ⟨id, o, x, k1, k2, h2, k3 b hb⟩, fun id' o2 x' b p1 p2 p3 p4 => .inl ?_⟩
      rcases hs id' o2 x' p1 p2 with ⟨m1, m2⟩ | ⟨o3, m1, m2, m3, m4⟩
      · exact hr.apart id id' o o2 x x' b k2 h2 m2 p2 (k3 b p3) p4
      · exact hr.apart id id' o o3 x x' b k2 h2 m2 p2 (k3 b p3) (m3 b p4)

/-- A function that writes its caller's slices in place. -/
def semM (ag : Bool) (ps : List Po) (l : List AT) (gd : PD ps → ADen l → Bool) (f : PD ps → ADen l → V × PD ps) : Sm := fun args H K =>
  match args with
  | v :: r =>
    match cellsM ag v with
    | some vs =>
      match decP H ps vs with
      | some (s, L) =>
        match decAs l r with
        | some x => bif nodupB L && immut (f s x).1 then cond (gd s x) (K (f s x).1 (putL H L (thP ps (f s x).2))) False else False
        | none => False
      | none => False
    | none => False
  | [] => False

theorem sub_hr {H : Heap} {g : List G} {M : Mem} {w : World} (hr : HR H g M w) {L : List Nat} (hnd : L.Nodup) {Hc : Heap} (hl : Hc.length = L.length)
    (hth : ∀ (k : Nat) (o : Ob), Hc[k]? = some o → ∃ (id ver : Nat) (e : Ty) (xs : List e.den), L[k]? = some id ∧ H[id]? = some (.sl ver e xs) ∧ o = .sl 0 e xs) :
    (∀ (k : Nat) (o : Ob) (x : G), Hc[k]? = some o → (gNorm L g)[k]? = some x → ObOk (gNorm L g) M w o x ∧ ∃ (id : Nat) (o0 : Ob) (x0 : G), L[k]? = some id ∧ H[id]? = some o0 ∧ g[id]? = some x0 ∧ x = x0.again ∧ ∀ b, ownB o x b → ownB o0 x0 b) := by
  intro k o x h1 h2
  obtain ⟨id, ver, e, xs, p1, p2, rfl⟩ := hth k o h1
  simp only [gNorm, List.getElem?_map, p1, Option.map_some, Option.some.injEq] at h2
  have hid : id < g.length := by rw [← hr.len]; exact lt_of_get p2
  have hg : g[id]? = some g[id] := List.getElem?_eq_getElem hid
  simp only [gAt, hg] at h2
  subst h2
  have ho := hr.ob id _ _ p2 hg
  generalize g[id] = y at *
  cases y <;> simp only [ObOk] at ho
  rename_i hh ver' sz
  refine ⟨?_, id, _, _, p1, p2, hg, rfl, ?_⟩
  · simp only [G.again, ObOk]
    refine ⟨trivial, ho.2.1, ho.2.2.1, ho.2.2.2.imp (fun e => e) ?_⟩
    rintro ⟨b, cap, c, T, fz, rfl, k2, k3, k4, k5, k6, k7⟩
    exact ⟨b, cap, c, T, fz, rfl, k2, k3, k4, fun i x hx => (k5 i x hx).imm (immuts_enc _ x), k6, k7⟩
  · intro b hb
    exact (ownB_sl ..).mp hb

theorem sub_back {g g1 : List G} {M1 : Mem} {w' : World} {o' : Ob} {y : G} (ho : Given (fun _ => true) o') {vy : Nat} (hy : ∀ h v sz, y = .sl h v sz → v = vy) (h : ObOk g1 M1 w' o' y.again) : ObOk g M1 w' (reV vy o') y ∧ ∀ b, ownB (reV vy o') y b → ownB o' y.again b := by
  obtain ⟨e, xs, rfl, _⟩ := ho
  cases y <;> simp only [G.again, ObOk] at h
  rename_i hh v sz
  have := hy hh v sz rfl
  subst this
  simp only [reV, ObOk]
  refine ⟨⟨trivial, h.2.1, h.2.2.1, h.2.2.2.imp (fun e => e) ?_⟩, fun b hb => (ownB_sl ..).mp hb⟩
  rintro ⟨b, cap, c, T, fz, rfl, k2, k3, k4, k5, k6, k7⟩
  exact ⟨b, cap, c, T, fz, rfl, k2, k3, k4, fun i x hx => (k5 i x hx).imm (immuts_enc _ x), k6, k7⟩

theorem allP_true : ∀ ps, allP (fun _ => true) ps = true
  | [] => rfl
  | .imm _ :: r => by simp only [allP, allP_true r]; rfl
  | .own _ :: r => by simp only [allP, allP_true r]; rfl

theorem fnOkO_mark0 {P : Program} {k : FuncId} {S : Sm} (hS : FnOkO P k S) {ag : Bool} {ps : List Po} {l : List AT} {gd : PD ps → ADen l → Bool} {f : PD ps → ADen l → V × PD ps} (hag : ag = true ∨ ∃ e, ps = [.own e])
    (h : ∀ (s : PD ps) (x : ADen l), WfAs l x → gd s x = true → ∀ (K : V → Heap → Prop), K (f s x).1 (thP ps (f s x).2) → S (ofCells ag (encP ps s 0) :: encAs l x) (thP ps s) K) : FnOkO P k (semM ag ps l gd f) := by
  intro args H K hk
  simp only [semM] at hk
  split at hk
  · rename_i v r
    split at hk
    · rename_i vs hvs
      split at hk
      · rename_i s L hd
        split at hk
        · rename_i x hx
          cases hi : (nodupB L && immut (f s x).1) with
          | false => simp only [hi, cond_false] at hk
          | true =>
            simp only [hi, cond_true] at hk
            cases hgd : gd s x with
            | false => simp only [hgd, cond_false] at hk
            | true =>
            simp only [hgd, cond_true] at hk
            refine ⟨_, _, hk, fun K' h' => by simp only [semM, hvs, hd, hx, hi, hgd, cond_true]; exact h', ?_⟩
            simp only [Bool.and_eq_true] at hi
            have hnd := nodupB_ok hi.1
            intro w g M cargs hv hr hG
            cases hv with
            | cons hp hrest =>
            have hwx : WfAs l x := wfAs_of hx hrest
            obtain ⟨hLl, hth⟩ := decP_things hd
            have hgc : ∀ k id, L[k]? = some id → (gNorm L g)[0 + k]? = some (gAt g id) := by
              intro k id hk
              simp [gNorm, hk]
            have hsub := sub_hr hr hnd (Hc := thP ps s) (by rw [thP_len, hLl]) hth
            have hr1 : HR (thP ps s) (gNorm L g) M w := by
              refine ⟨by simp [gNorm, thP_len, hLl], fun k o x h1 h2 => (hsub k o x h1 h2).1, ?_, hr.mem⟩
              intro k k' o o' x x' b h1 h2 h3 h4 h5 h6
              obtain ⟨_, id, o0, x0, p1, p2, p3, _, p5⟩ := hsub k o x h1 h2
              obtain ⟨_, id', o0', x0', q1, q2, q3, _, q5⟩ := hsub k' o' x' h3 h4
              have := hr.apart id id' o0 o0' x0 x0' b p2 p3 q2 q3 (p5 b h5) (q5 b h6)
              subst this
              exact nodup_pos hnd p1 q1
            have hva : ∀ c, VR g M v c → VR (gNorm L g) M (ofCells ag (encP ps s 0)) c := by
              intro c hc
              cases ag with
              | true =>
                simp only [cellsM, cond_true] at hvs
                split at hvs
                · rename_i us
                  cases hvs
                  cases hc with
                  | agg _ cs hcs => exact .agg _ cs (decP_sound hr hd hcs hgc)
                · cases hvs
              | false =>
                rcases hag with k | ⟨e, rfl⟩
                · cases k
                · simp only [cellsM, cond_false] at hvs
                  cases hvs
                  have := decP_sound hr hd (cs := [c]) (.cons hc .nil) hgc
                  simp only [encP] at this ⊢
                  cases this with
                  | cons a _ => exact a
            generalize hs' : (f s x).2 = s' at *
            obtain ⟨v1, H1, h1, h2, h3⟩ := hS (ofCells ag (encP ps s 0) :: encAs l x) (thP ps s) (fun v hs => v = (f s x).1 ∧ hs = thP ps s') (h s x hwx hgd _ ⟨rfl, by rw [hs']⟩)
            obtain ⟨rfl, rfl⟩ := h1
            refine (h3 w (gNorm L g) M _ (.cons (hva _ hp) ((decAs_sound hx hrest).imm (immuts_encAs l x))) hr1 hG).mono ?_
            rintro val w' ⟨g1, M1, q1, q2, q3, q4⟩
            have hgs : ∀ (k : Nat) (y : G), (gNorm L g)[k]? = some y → g1[k]? = some y := by
              intro k y hy
              refine q4.gbox k y ⟨hy, ?_⟩
              have hl : k < (thP ps s).length := by rw [hr1.len]; exact lt_of_get hy
              obtain ⟨hob, _⟩ := hsub k _ y (List.getElem?_eq_getElem hl) hy
              obtain ⟨_, _, e, xs, _, _, ho⟩ := hth k _ (List.getElem?_eq_getElem hl)
              rw [ho] at hob
              cases y <;> simp only [ObOk] at hob
              simp only [G.fixed, hob.1]; rfl
            obtain ⟨r1, r2, r3⟩ := inPlace (L := fun i => i ∈ L) (H' := putL H L (thP ps s')) hr q2 q4 (putL_len H L _) (by
                rintro b ⟨k, o, x, p1, p2, p3⟩
                obtain ⟨_, id, o0, x0, m1, m2, m3, _, m5⟩ := hsub k o x p1 p2
                exact ⟨id, o0, x0, List.mem_of_getElem? m1, m2, m3, m5 b p3⟩) (by
                intro id o' x p1 p2
                rcases putL_get p1 with ⟨m1, m2⟩ | ⟨k, o2, m1, m2, rfl⟩ | m1
                · exact .inl ⟨m1, m2⟩
                · refine .inr ?_
                  have hgk := hgc k id m1
                  rw [Nat.zero_add] at hgk
                  have hl : k < (thP ps s).length := by rw [hr1.len]; exact lt_of_get hgk
                  obtain ⟨hob, id', o0, x0, n1, n2, n3, n4, n5⟩ := hsub k _ _ (List.getElem?_eq_getElem hl) hgk
                  rw [m1] at n1; cases n1
                  rw [p2] at n3; cases n3
                  obtain ⟨_, ver, e, xs, u1, u2, u3⟩ := hth k _ (List.getElem?_eq_getElem hl)
                  rw [m1] at u1; cases u1
                  rw [n2] at u2; cases u2
                  have hver : verAt H id = ver := by simp only [verAt, n2]
                  have ho := hr.ob id _ _ n2 p2
                  have hgiven := thP_given ps s' (allP_true ps) o2 (List.mem_of_getElem? m2)
                  have hb := sub_back (g := g) (vy := ver) hgiven (y := x) (fun hh v sz e => by subst e; simp only [ObOk] at ho; exact ho.1) (by
                    rw [← n4]; exact q2.ob k o2 _ m2 (hgs k _ hgk))
                  rw [hver]
                  refine ⟨_, List.mem_of_getElem? m1, n2, fun b hb' => n5 b ?_, hb.1⟩
                  have := hb.2 b hb'
                  obtain ⟨e', xs', rfl, _⟩ := hgiven
                  rw [u3, n4]
                  cases x <;> simp only [G.again, ownB] at this ⊢
                  exact (ownB_sl ..).mp this
                · rw [thP_len, hLl] at m1; omega)
            exact ⟨g, M1, q1.imm hi.2, r1, r2, r3⟩
        · exact hk.elim
      · exact hk.elim
    · exact hk.elim
  · exact hk.elim
theorem putL_boxes (H : Heap) (id : Nat) : ∀ (L : List Nat) (r : Heap), (∀ i ∈ L, ∃ (ver : Nat) (e : Ty) (xs : List e.den), H[i]? = some (.sl ver e xs)) → BoxesStay id H (putL H L r)
  | [], _, _ => .refl _ _
  | _ :: _, [], _ => .refl _ _
  | i :: L, o :: r, h => by
    simp only [putL]
    intro j hj cells hc
    obtain ⟨ver, e, xs, hi⟩ := h i (by simp)
    have hne : i ≠ j := fun e' => by subst e'; rw [hi] at hc; cases hc
    rw [List.getElem?_set_ne hne]
    exact putL_boxes H id L r (fun i' hi' => h i' (by simp [hi'])) j hj cells hc
theorem decP_sl {H : Heap} {ps : List Po} {vs : List V} {s : PD ps} {L : List Nat} (h : decP H ps vs = some (s, L)) : ∀ i ∈ L, ∃ (ver : Nat) (e : Ty) (xs : List e.den), H[i]? = some (.sl ver e xs) := by
  intro i hi
  obtain ⟨h1, h2⟩ := decP_things h
  obtain ⟨k, hk⟩ := List.mem_iff_getElem?.1 hi
  have hl : k < (thP ps s).length := by rw [thP_len, ← h1]; exact lt_of_get hk
  obtain ⟨id, ver, e, xs, p1, p2, _⟩ := h2 k _ (List.getElem?_eq_getElem hl)
  rw [hk] at p1; cases p1
  exact ⟨ver, e, xs, p2⟩
theorem semM_local (ag : Bool) (ps : List Po) (l : List AT) (gd : PD ps → ADen l → Bool) (f : PD ps → ADen l → V × PD ps) : LocalS (semM ag ps l gd f) := by
  intro id off r H K h
  simp only [semM] at h ⊢
  split at h
  · rename_i vs hvs
    split at h
    · rename_i s L hd
      split at h
      · rename_i x hx
        cases hi : (nodupB L && immut (f s x).1) with
        | false => simp only [hi, cond_false] at h
        | true =>
          cases hg : gd s x with
          | false => simp only [hi, hg, cond_true, cond_false] at h
          | true =>
            simp only [hi, hg, cond_true] at h
            simp only [hd, hx, hi, hg, cond_true]
            exact ⟨h, putL_boxes H id L _ (decP_sl hd)⟩
      · exact h.elim
    · exact h.elim
  · exact h.elim
theorem fnOkO_mark {P : Program} {k : FuncId} {S : Sm} (hS : FnOkO P k S) {ag : Bool} {ps : List Po} {l : List AT} {gd : PD ps → ADen l → Bool} {f : PD ps → ADen l → V × PD ps} (hag : ag = true ∨ ∃ e, ps = [.own e])
    (h : ∀ (s : PD ps) (x : ADen l), WfAs l x → gd s x = true → ∀ (K : V → Heap → Prop), K (f s x).1 (thP ps (f s x).2) → S (ofCells ag (encP ps s 0) :: encAs l x) (thP ps s) K) : FnOkL P k (semM ag ps l gd f) := ⟨fnOkO_mark0 hS hag h, semM_local _ _ _ _ _⟩

theorem encI_sound {H : Heap} {g g1 : List G} {M1 : Mem} {n : Nat} : ∀ {ps : List Po} {x : PD ps} {L : List Nat} {cs : List Value} {k : Nat}, L.length = cntP ps → (∀ (j id : Nat), L[j]? = some id → ∃ h sz, g1[k + j]? = some (.sl h 0 sz) ∧ g[id]? = some (.sl h (verAt H id) sz)) → VRs g1 M1 (encP ps x k) cs → VRs g M1 (encI H ps x L) cs
  | [], _, _, _, _, _, _, h => by cases h; exact .nil
  | .imm t :: r, x, L, cs, k, hl, hg, h => by
    simp only [encP, encI] at h ⊢
    obtain ⟨h1, h2⟩ := h.split
    have := (h1.imm (g' := g) (immuts_enc t x.1)).append (encI_sound (n := n) (ps := r) (L := L) hl hg h2)
    rwa [List.take_append_drop] at this
  | .own e :: r, x, [], cs, k, hl, hg, h => by simp [cntP] at hl
  | .own e :: r, x, id :: L, cs, k, hl, hg, h => by
    simp only [encP, encI] at h ⊢
    cases h with
    | cons a b =>
      refine .cons ?_ (encI_sound (n := n) (ps := r) (k := k + 1) (by simpa [cntP] using hl) (fun j id' hj => ?_) b)
      · obtain ⟨h', sz', e1, e2⟩ := hg 0 id rfl
        cases a with
        | obj _ _ ver' sz hh _ q1 q2 q3 q4 =>
          rw [Nat.add_zero] at e1
          rw [q1] at e1; cases e1
          exact .obj id _ _ _ _ _ e2 (Nat.le_refl _) (fun _ => q3 rfl) q4
      · have := hg (j + 1) id' (by simpa using hj)
        rw [show k + (j + 1) = k + 1 + j by omega] at this
        exact this

/-- A function that is given the address of a box with slices, and writes them in place. -/
def semW (ps : List Po) (l : List AT) (gd : PD ps → ADen l → Bool) (f : PD ps → ADen l → V × PD ps) : Sm := fun args H K =>
  match args with
  | .ptr id off :: r =>
    match H[id]? with
    | some (.box cells) =>
      match decP H ps cells with
      | some (s, L) =>
        match decAs l r with
        | some x => bif Nat.beq off 0 && (nodupB L && immut (f s x).1) then cond (gd s x) (K (f s x).1 ((putL H L (thP ps (f s x).2)).set id (.box (encI H ps (f s x).2 L)))) False else False
        | none => False
      | none => False
    | _ => False
  | _ => False

theorem fnOkO_in0 {P : Program} {k : FuncId} {S : Sm} (hS : FnOkO P k S) {ps : List Po} {l : List AT} {gd : PD ps → ADen l → Bool} {f : PD ps → ADen l → V × PD ps}
    (h : ∀ (s : PD ps) (x : ADen l), WfAs l x → gd s x = true → ∀ (K : V → Heap → Prop), K (f s x).1 (.box (encP ps (f s x).2 1) :: thP ps (f s x).2) → S (.ptr 0 0 :: encAs l x) (.box (encP ps s 1) :: thP ps s) K) : FnOkO P k (semW ps l gd f) := by
  intro args H K hk
  simp only [semW] at hk
  split at hk
  · rename_i id0 off r
    split at hk
    · rename_i cells hid0
      split at hk
      · rename_i s L hd
        split at hk
        · rename_i x hx
          cases hi : (Nat.beq off 0 && (nodupB L && immut (f s x).1)) with
          | false => simp only [hi, cond_false] at hk
          | true =>
            simp only [hi, cond_true] at hk
            cases hgd : gd s x with
            | false => simp only [hgd, cond_false] at hk
            | true =>
            simp only [hgd, cond_true] at hk
            refine ⟨_, _, hk, fun K' h' => by simp only [semW, hid0, hd, hx, hi, hgd, cond_true]; exact h', ?_⟩
            simp only [Bool.and_eq_true] at hi
            have hoff := beq_true hi.1
            subst hoff
            have hnd := nodupB_ok hi.2.1
            intro w g M cargs hv hr hG
            cases hv with
            | cons hp hrest =>
            cases hp with
            | ptr _ _ b hb =>
            have hwx : WfAs l x := wfAs_of hx hrest
            obtain ⟨hLl, hth⟩ := decP_things hd
            have hob0 := hr.ob id0 _ _ hid0 hb
            simp only [ObOk] at hob0
            obtain ⟨c, T, fz, k1, k2, k3, k4⟩ := hob0
            have hgc : ∀ k id, L[k]? = some id → (G.box b :: gNorm L g)[1 + k]? = some (gAt g id) := by
              intro k id hk
              rw [Nat.add_comm]
              simp [gNorm, hk]
            have hsub := sub_hr hr hnd (Hc := thP ps s) (by rw [thP_len, hLl]) hth
            have hidL : ∀ i ∈ L, i ≠ id0 := by
              intro i hi' e
              subst e
              obtain ⟨_, _, _, hsl⟩ := decP_sl hd i hi'
              rw [hid0] at hsl; cases hsl
            have shift : ∀ {o : Ob} {y : G}, Given (fun _ => true) o → ObOk (gNorm L g) M w o y → ObOk (G.box b :: gNorm L g) M w o y := fun ho hy =>
              ObOk.given (p := fun _ => true) (fun t _ x cs hx => hx.imm (immuts_enc t x)) (fun _ h => h) ho hy
            have hgiv := thP_given (p := fun _ => true) ps s (allP_true ps)
            have hr1 : HR (.box (encP ps s 1) :: thP ps s) (.box b :: gNorm L g) M w := by
              refine ⟨by simp [gNorm, thP_len, hLl], ?_, ?_, hr.mem⟩
              · intro k o x h1 h2
                cases k with
                | zero => cases h1; cases h2; exact ⟨c, T, fz, k1, decP_sound hr hd k2 hgc, k3, k4⟩
                | succ k =>
                  simp only [List.getElem?_cons_succ] at h1 h2
                  exact shift (hgiv o (List.mem_of_getElem? h1)) (hsub k o x h1 h2).1
              · intro k k' o o' x x' b' h1 h2 h3 h4 h5 h6
                cases k with
                | zero =>
                  cases h1; cases h2
                  simp only [ownB] at h5
                  subst h5
                  cases k' with
                  | zero => rfl
                  | succ k' =>
                    exfalso
                    simp only [List.getElem?_cons_succ] at h3 h4
                    obtain ⟨_, id', o0', x0', q1, q2, q3, _, q5⟩ := hsub k' o' x' h3 h4
                    exact hidL id' (List.mem_of_getElem? q1) (hr.apart id' id0 o0' _ x0' _ b q2 q3 hid0 hb (q5 b h6) rfl)
                | succ k =>
                  simp only [List.getElem?_cons_succ] at h1 h2
                  obtain ⟨_, id, o0, x0, p1, p2, p3, _, p5⟩ := hsub k o x h1 h2
                  cases k' with
                  | zero =>
                    exfalso
                    cases h3; cases h4
                    simp only [ownB] at h6
                    subst h6
                    exact hidL id (List.mem_of_getElem? p1) (hr.apart id id0 o0 _ x0 _ b p2 p3 hid0 hb (p5 b h5) rfl)
                  | succ k' =>
                    simp only [List.getElem?_cons_succ] at h3 h4
                    obtain ⟨_, id', o0', x0', q1, q2, q3, _, q5⟩ := hsub k' o' x' h3 h4
                    have := hr.apart id id' o0 o0' x0 x0' b' p2 p3 q2 q3 (p5 b' h5) (q5 b' h6)
                    subst this
                    rw [nodup_pos hnd p1 q1]
            generalize hs' : (f s x).2 = s' at *
            obtain ⟨v1, H1, h1, h2, h3⟩ := hS (.ptr 0 0 :: encAs l x) (.box (encP ps s 1) :: thP ps s) (fun v hs => v = (f s x).1 ∧ hs = .box (encP ps s' 1) :: thP ps s') (h s x hwx hgd _ ⟨rfl, by rw [hs']⟩)
            obtain ⟨rfl, rfl⟩ := h1
            refine (h3 w (.box b :: gNorm L g) M _ (.cons (.ptr 0 0 b rfl) ((decAs_sound hx hrest).imm (immuts_encAs l x))) hr1 hG).mono ?_
            rintro val w' ⟨g1, M1, q1, q2, q3, q4⟩
            have hg0 : g1[0]? = some (.box b) := q4.gbox 0 (.box b) ⟨rfl, rfl⟩
            have hsl : ∀ (k : Nat) (y : G), (gNorm L g)[k]? = some y → y.fixed = true := by
              intro k y hy
              have hl : k < (thP ps s).length := by
                have := lt_of_get hy
                simp only [gNorm, List.length_map] at this
                rw [thP_len]; omega
              obtain ⟨hob, _⟩ := hsub k _ y (List.getElem?_eq_getElem hl) hy
              obtain ⟨_, _, e, xs, _, _, ho⟩ := hth k _ (List.getElem?_eq_getElem hl)
              rw [ho] at hob
              cases y <;> simp only [ObOk] at hob
              simp only [G.fixed, hob.1]; rfl
            have hgs : ∀ (k : Nat) (y : G), (gNorm L g)[k]? = some y → g1[k + 1]? = some y := by
              intro k y hy
              exact q4.gbox (k + 1) y ⟨by simpa using hy, hsl k y hy⟩
            have hid0l : id0 < (putL H L (thP ps s')).length := by rw [putL_len]; exact lt_of_get hid0
            -- what is known of one of the slices
            have hone : ∀ k id, L[k]? = some id → ∃ ver e, ∃ xs : List e.den, ∃ x, H[id]? = some (.sl ver e xs) ∧ g[id]? = some x ∧ gAt g id = x.again ∧ verAt H id = ver ∧ (∀ hh v sz, x = .sl hh v sz → v = ver) ∧
                (∀ b', ownB (.sl 0 e xs) x.again b' → ownB (.sl ver e xs) x b') ∧ g1[k + 1]? = some x.again ∧ ∃ hh sz, x = .sl hh ver sz := by
              intro k id m1
              have hgk : (gNorm L g)[k]? = some (gAt g id) := by simp [gNorm, m1]
              have hl : k < (thP ps s).length := by rw [thP_len, ← hLl]; exact lt_of_get m1
              obtain ⟨hob, id', o0, x0, n1, n2, n3, n4, n5⟩ := hsub k _ _ (List.getElem?_eq_getElem hl) hgk
              rw [m1] at n1; cases n1
              obtain ⟨_, ver, e, xs, u1, u2, u3⟩ := hth k _ (List.getElem?_eq_getElem hl)
              rw [m1] at u1; cases u1
              rw [n2] at u2; cases u2
              have ho := hr.ob id _ _ n2 n3
              have hv' : ∀ hh v sz, x0 = .sl hh v sz → v = ver := fun hh v sz e => by subst e; simp only [ObOk] at ho; exact ho.1
              refine ⟨ver, e, xs, x0, n2, n3, n4, by simp only [verAt, n2], hv', fun b' hb' => n5 b' (by rw [u3, n4]; exact hb'), by rw [← n4]; exact hgs k _ hgk, ?_⟩
              cases x0 <;> simp only [ObOk] at ho
              rename_i hh v sz
              have := hv' hh v sz rfl
              subst this
              exact ⟨hh, sz, rfl⟩
            obtain ⟨r1, r2, r3⟩ := inPlace (L := fun i => i = id0 ∨ i ∈ L) (H' := (putL H L (thP ps s')).set id0 (.box (encI H ps s' L))) hr q2 q4 (by rw [List.length_set, putL_len]) (by
                rintro b' ⟨k, o, x, p1, p2, p3⟩
                cases k with
                | zero => cases p1; cases p2; simp only [ownB] at p3; subst p3; exact ⟨id0, _, _, .inl rfl, hid0, hb, rfl⟩
                | succ k =>
                  simp only [List.getElem?_cons_succ] at p1 p2
                  obtain ⟨_, id, o0, x0, m1, m2, m3, _, m5⟩ := hsub k o x p1 p2
                  exact ⟨id, o0, x0, .inr (List.mem_of_getElem? m1), m2, m3, m5 b' p3⟩) (by
                intro id o' x p1 p2
                by_cases e0 : id0 = id
                · subst e0
                  rw [List.getElem?_set_self hid0l] at p1
                  cases p1
                  rw [hb] at p2; cases p2
                  have hob1 := q2.ob 0 _ _ rfl hg0
                  simp only [ObOk] at hob1
                  obtain ⟨c', T', fz', m1, m2, m3, m4⟩ := hob1
                  refine .inr ⟨_, .inl rfl, hid0, fun b' hb' => hb', ⟨c', T', fz', m1, ?_, m3, m4⟩⟩
                  refine encI_sound (n := 0) hLl (fun j id hj => ?_) m2
                  obtain ⟨ver, e, xs, x, n1, n2, n3, n4, _, _, n5, hh, sz, rfl⟩ := hone j id hj
                  refine ⟨hh, sz, ?_, by rw [n4]; exact n2⟩
                  rw [Nat.add_comm]
                  exact n5
                · rw [List.getElem?_set_ne e0] at p1
                  rcases putL_get p1 with ⟨m1, m2⟩ | ⟨k, o2, m1, m2, rfl⟩ | m1
                  · exact .inl ⟨fun h => h.elim (fun e => e0 e.symm) m1, m2⟩
                  · refine .inr ?_
                    obtain ⟨ver, e, xs, x', n1, n2, n3, n4, n5, n6, n7, _⟩ := hone k id m1
                    rw [p2] at n2; cases n2
                    have hgiven := thP_given ps s' (allP_true ps) o2 (List.mem_of_getElem? m2)
                    have hb2 := sub_back (g := g) (vy := ver) hgiven (y := x) n5 (q2.ob (k + 1) o2 _ (by simpa using m2) n7)
                    rw [n4]
                    refine ⟨_, .inr (List.mem_of_getElem? m1), n1, fun b' hb' => n6 b' ?_, hb2.1⟩
                    have := hb2.2 b' hb'
                    obtain ⟨e', xs', rfl, _⟩ := hgiven
                    cases x <;> simp only [G.again, ownB] at this ⊢
                    exact (ownB_sl ..).mp this
                  · rw [thP_len, hLl] at m1; omega)
            exact ⟨g, M1, q1.imm hi.2.2, r1, r2, r3⟩
        · exact hk.elim
      · exact hk.elim
    · exact hk.elim
  · exact hk.elim
theorem semW_local (ps : List Po) (l : List AT) (gd : PD ps → ADen l → Bool) (f : PD ps → ADen l → V × PD ps) : LocalS (semW ps l gd f) := by
  intro id off r H K h
  simp only [semW] at h ⊢
  split at h
  · rename_i cells hid
    split at h
    · rename_i s L hd
      split at h
      · rename_i x hx
        cases hi : (Nat.beq off 0 && (nodupB L && immut (f s x).1)) with
        | false => simp only [hi, cond_false] at h
        | true =>
          cases hg : gd s x with
          | false => simp only [hi, hg, cond_true, cond_false] at h
          | true =>
            simp only [hi, hg, cond_true] at h
            simp only [hid, hd, hx, hi, hg, cond_true]
            exact ⟨h, (putL_boxes H id L _ (decP_sl hd)).trans (.set _ _ _)⟩
      · exact h.elim
    · exact h.elim
  · exact h.elim
theorem fnOkO_in {P : Program} {k : FuncId} {S : Sm} (hS : FnOkO P k S) {ps : List Po} {l : List AT} {gd : PD ps → ADen l → Bool} {f : PD ps → ADen l → V × PD ps}
    (h : ∀ (s : PD ps) (x : ADen l), WfAs l x → gd s x = true → ∀ (K : V → Heap → Prop), K (f s x).1 (.box (encP ps (f s x).2 1) :: thP ps (f s x).2) → S (.ptr 0 0 :: encAs l x) (.box (encP ps s 1) :: thP ps s) K) : FnOkL P k (semW ps l gd f) := ⟨fnOkO_in0 hS h, semW_local _ _ _ _⟩

theorem fnOkO_runG {P : Program} {C : Ctx} {ty : TypeId → Ty} {kv kf ko : List (FuncId × Sm)} {n : Nat} {ann : Nat → Option Ann} {base : Nat} {cut : Bool} {kd : List (FuncId × Sm)} (ps : List (List (Option Ty))) (hC : C = mkC P ty kv kf ko n ann base cut kd) (hm : P.follows .mixedOrders = true)
    (h1 : Known P kv) (h2 : Known P kf) (h3 : KnownO P ko) {k : FuncId} {fn : Func} (hf : P.funcs[k]? = some fn) (hn : (fn.name == "runtime.NumGoroutine") = false) (h4 : Known P kd := by exact .nil) : FnOkO P k (wpFnG ps C fn) := by
  subst hC
  exact fnOkO_of_wpFnG (lok_tiOf P ty _ rfl) (mkC_calls h1 h2 h3 h4) hm ps hf hn

/-! ### slices.Clone: it asks for nil, what the evaluator's lists do not tell -/
def sCl (t : Ty) (m : Nat) : Sm := fun args H K => match args, H with
  | [.vec t' xs], [] => if h : t' = t then cond (decide (xs.length ≤ m)) (K (.obj 0 0) [.sl 0 t (h ▸ xs)]) False else False
  | _, _ => False
theorem fnOkO_clone {P : Program} {k : FuncId} {S : Sm} (hS : FnOkO P k S) {t : Ty} (m : Nat) (h1 : ∀ (x : t.den) (xs : List t.den) (K : V → Heap → Prop), xs.length + 1 ≤ m → K (.obj 0 0) [.sl 0 t (x :: xs)] → S [.vec t (x :: xs)] [] K)
    (h2 : ∀ (b : Bool) (K : V → Heap → Prop), K (.obj 0 0) [.sl 0 t []] → S [.empty b] [] K) : FnOkL P k (semV [.cell (.slice t)] [.cell (.own t)] (fun x => decide (x.1.length ≤ m)) fun x => (x.1, ())) := by
  refine fnOkO_give (S := sCl t m) ?_ rfl ?_
  · intro args H K hk
    unfold sCl at hk
    split at hk
    · rename_i t' xs
      split at hk
      · rename_i e
        subst e
        cases hm : decide (xs.length ≤ m) with
        | false => simp only [hm, cond_false] at hk
        | true =>
        simp only [hm, cond_true] at hk
        refine ⟨_, _, hk, fun K' h' => by simp only [sCl, dif_pos, hm, cond_true]; exact h', ?_⟩
        intro w g M cargs hv hr hG
        cases hv with
        | cons a b =>
        cases b
        rename_i c
        cases xs with
        | nil =>
          have he : ∃ b, VR g M (.empty b) c := by
            cases a with
            | vecnil _ ad cap => exact ⟨_, .empty _ ad cap rfl⟩
            | vec _ _ b off n cap cs m1 m2 m3 m4 =>
              have : n = 0 := m2.1
              subst this
              exact ⟨_, .empty _ _ cap rfl⟩
          obtain ⟨b, he⟩ := he
          obtain ⟨v, H1, q1, q2, q3⟩ := hS [.empty b] [] (fun v hs => v = .obj 0 0 ∧ hs = [.sl 0 t' []]) (h2 b _ ⟨rfl, rfl⟩)
          obtain ⟨rfl, rfl⟩ := q1
          exact q3 w g M _ (.cons he .nil) hr hG
        | cons x xs =>
          obtain ⟨v, H1, q1, q2, q3⟩ := hS [.vec t' (x :: xs)] [] (fun v hs => v = .obj 0 0 ∧ hs = [.sl 0 t' (x :: xs)]) (h1 x xs _ (by have := of_decide_eq_true hm; simpa using this) ⟨rfl, rfl⟩)
          obtain ⟨rfl, rfl⟩ := q1
          exact q3 w g M _ (.cons a .nil) hr hG
      · exact hk.elim
    · exact hk.elim
  · intro x _ hg K hK
    obtain ⟨xs, _⟩ := x
    show sCl t m [.vec t xs] [] K
    simp only [sCl, dif_pos]
    rw [show decide (xs.length ≤ m) = true from hg]
    exact hK

/-! ### what is handed over may be looked at alone -/
def vecP : (ps : List Po) → PD ps → List V
  | [], _ => []
  | .imm t :: r, x => enc t x.1 ++ vecP r x.2
  | .own e :: r, x => .vec e x.1 :: vecP r x.2
def vecR : (r : RT) → r.den → V
  | .cell (.imm t), x => (enc t x).headD .undef
  | .cell (.own e), x => .vec e x
  | .agg ps, x => .agg (vecP ps x)
def vecRs : (rs : List RT) → RD rs → List V
  | [], _ => []
  | r :: rs, x => vecR r x.1 :: vecRs rs x.2

section
variable {g : List G} {M : Mem} {w : World} {H : Heap}
theorem obj_vec (hr : HR H g M w) {n : Nat} {e : Ty} {xs : List e.den} (hn : H[n]? = some (.sl 0 e xs)) {c : Value} (hv : VR g M (.obj n 0) c) : VR [] (memAll H g M w) (.vec e xs) c := by
  cases hv with
  | obj _ _ ver' sz h _ h1 h2 h3 h4 =>
    have ho := hr.ob n _ _ hn h1
    simp only [ObOk] at ho
    rw [h3 ho.1.symm]
    exact vec_of_sl hr hn h1
theorem encP_vec (hr : HR H g M w) : ∀ (ps : List Po) (x : PD ps) (n : Nat) {cs : List Value}, (∀ (j : Nat) (o : Ob), (thP ps x)[j]? = some o → H[n + j]? = some o) → VRs g M (encP ps x n) cs → VRs [] (memAll H g M w) (vecP ps x) cs
  | [], _, _, _, _, h => by cases h; exact .nil
  | .imm t :: r, x, n, cs, hth, h => by
    simp only [encP, vecP] at h ⊢
    obtain ⟨h1, h2⟩ := h.split
    have := ((h1.mono (Ext.mem (memAll_le H g M w))).imm (g' := []) (immuts_enc t x.1)).append (encP_vec hr r x.2 n hth h2)
    rwa [List.take_append_drop] at this
  | .own e :: r, x, n, cs, hth, h => by
    simp only [encP, vecP] at h ⊢
    cases h with
    | cons a b =>
      exact .cons (obj_vec hr (hth 0 _ rfl) a) (encP_vec hr r x.2 (n + 1) (fun j o hj => by
        have := hth (j + 1) o (by simpa [thP] using hj)
        rwa [show n + (j + 1) = n + 1 + j by omega] at this) b)
theorem valRs_vec (hr : HR H g M w) : ∀ (rs : List RT) (x : RD rs) (n : Nat) {cs : List Value}, (∀ (j : Nat) (o : Ob), (thRs rs x)[j]? = some o → H[n + j]? = some o) → VRs g M (valRs rs x n) cs → VRs [] (memAll H g M w) (vecRs rs x) cs
  | [], _, _, _, _, h => by cases h; exact .nil
  | r :: rs, x, n, cs, hth, h => by
    simp only [valRs, vecRs] at h ⊢
    cases h with
    | cons a b =>
      have hrest := valRs_vec hr rs x.2 (n + cntR r) (fun j o hj => by
        have := hth (cntR r + j) o (by
          simp only [thRs]
          rw [List.getElem?_append_right (by rw [thR_len]; omega), thR_len, Nat.add_sub_cancel_left]; exact hj)
        rwa [← Nat.add_assoc] at this) b
      refine .cons ?_ hrest
      have hfst : ∀ (j : Nat) (o : Ob), (thR r x.1)[j]? = some o → H[n + j]? = some o := fun j o hj => hth j o (by
        simp only [thRs]
        rw [List.getElem?_append_left (lt_of_get hj)]; exact hj)
      match r, x, a, hfst with
      | .cell (.imm t), x, a, _ =>
        simp only [valR, vecR] at a ⊢
        refine (a.mono (Ext.mem (memAll_le H g M w))).imm ?_
        have := immuts_enc t x.1
        cases e : enc t x.1 with
        | nil => rfl
        | cons v vs => rw [e] at this; simp only [immuts, Bool.and_eq_true] at this; exact this.1
      | .cell (.own e), x, a, hfst =>
        simp only [valR, vecR] at a ⊢
        exact obj_vec hr (by simpa using hfst 0 _ rfl) a
      | .agg ps, x, a, hfst =>
        simp only [valR, vecR] at a ⊢
        cases a with
        | agg _ cs hvs => exact .agg _ cs (encP_vec hr ps x.1 n hfst hvs)
end
theorem vecRs_len : ∀ (rs : List RT) (x : RD rs), (vecRs rs x).length = rs.length
  | [], _ => rfl
  | r :: rs, x => by simp only [vecRs, List.length_cons, vecRs_len rs x.2]

mutual
theorem VR.immut_nil {M : Mem} : ∀ {v : V} {c : Value}, VR [] M v c → immut v = true
  | _, _, .undef v => rfl
  | _, _, .bool b => rfl
  | _, _, .int k n h => rfl
  | _, _, .nanb n h h' => rfl
  | _, _, .empty b ad cap h => rfl
  | _, _, .float k b b' h h' => rfl
  | _, _, .str s l h h' => rfl
  | _, _, .agg vs cs h => by simp only [immut]; exact VRs.immut_nil h
  | _, _, .vecnil t ad cap => rfl
  | _, _, .vec t xs b off n cap cs h1 h2 h3 h4 => rfl
  | _, _, .nils => rfl
  | _, _, .nilp => rfl
  | _, _, .ref cells b base off o cs h1 h2 h3 => by simp only [immut]; exact VRs.immut_nil h2
  | _, _, .ptr id off b h => by cases h
  | _, _, .obj id ver ver' sz h val h1 h2 h3 h4 => by cases h1
  | _, _, .eptr id ver ver' sz j off b o h h1 h2 h3 h4 => by cases h1
  | _, _, .bptr id b buf h => by cases h
  | _, _, .fn f vs cs h => by simp only [immut]; exact VRs.immut_nil h
  | _, _, .tuple vs cs h => by simp only [immut]; exact VRs.immut_nil h
theorem VRs.immut_nil {M : Mem} : ∀ {vs : List V} {cs : List Value}, VRs [] M vs cs → immuts vs = true
  | _, _, .nil => rfl
  | _, _, .cons h t => by simp only [immuts, VR.immut_nil h, VRs.immut_nil t, Bool.and_self]
end
theorem fnOk_of_give {P : Program} {k : FuncId} {l : List AT} {rs : List RT} {gd : ADen l → Bool} {f : ADen l → RD rs} (hS : FnOkO P k (semV l rs gd f)) : FnOk P k (semG l gd fun x => tup (vecRs rs (f x))) := by
  intro args K hk
  unfold semG at hk
  split at hk
  · rename_i x hx
    cases hgd : gd x with
    | false => simp only [hgd, cond_false] at hk
    | true =>
      simp only [hgd, cond_true] at hk
      refine ⟨_, hk, fun K' h' => by simp only [semG, hx, hgd, cond_true]; exact h', ?_⟩
      intro w M cargs hv hM hG
      have himm := VRs.immut_nil hv
      obtain ⟨v, H1, h1, h2, h3⟩ := hS args [] (fun v hs => v = tup (valRs rs (f x) 0) ∧ hs = thRs rs (f x)) (by
        unfold semV
        simp only [himm, hx, hgd, cond_true]
        exact ⟨rfl, rfl⟩)
      obtain ⟨rfl, rfl⟩ := h1
      have hr1 : HR [] [] M w := ⟨rfl, (by intro j o y p1; cases p1), (by intro j j' o o' y y' b p1; cases p1), hM⟩
      refine (h3 w [] M _ hv hr1 hG).mono ?_
      rintro val w' ⟨g1, M1, q1, q2, q3, q4⟩
      have hno : ∀ b, ¬ Own ([] : Heap) ([] : List G) b := by rintro b ⟨j, o, y, p1, _⟩; cases p1
      refine ⟨memAll (thRs rs (f x)) g1 M1 w', VR_tup (by rw [valRs_len, vecRs_len]) (fun cs hcs => valRs_vec q2 rs (f x) 0 (fun j o hj => by rw [Nat.zero_add]; exact hj) hcs) q1, memAll_ok q2, ?_⟩
      refine ⟨q4.size, fun b hb' => q4.keep b hb' (hno b), fun b cs hb' => memAll_le _ _ _ _ b cs (q4.mle b cs hb'), ?_, q4.os, q4.tape, q4.output⟩
      intro b cs hb'
      unfold memAll at hb'
      split at hb'
      · rename_i cs' hm'
        cases hb'
        rcases q4.mnew b _ hm' with k | k | k
        · exact .inl k
        · exact absurd k (hno b)
        · exact .inr k
      · split at hb'
        · rename_i ho
          rcases q4.own b ho with k | k
          · exact absurd k (hno b)
          · exact .inr k
        · cases hb'
  · exact hk.elim
end Go.Ev
