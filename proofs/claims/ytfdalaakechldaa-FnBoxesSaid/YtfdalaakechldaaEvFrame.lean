/- Calls that act on some of the caller's things, and calls that hand over new ones. -/
import Derived.Test.YtfdalaakechldaaEvUse
import Derived.Test.YtfdalaakechldaaEvGive
set_option linter.unusedVariables false
set_option linter.unusedSimpArgs false
namespace Go.Ev

/-- One call acts on some of the caller's things (L), and makes others: all else is as it was. -/
theorem glue {H H' : Heap} {g g' : List G} {M Mn : Mem} {w w' : World} {L : Nat → Prop} (hr : HR H g M w)
    (hM : MemOk Mn w') (hle : ∀ b cs, M b = some cs → Mn b = some cs)
    (hnew : ∀ b cs, Mn b = some cs → M b = some cs ∨ (∃ (id : Nat) (o : Ob) (x : G), L id ∧ H[id]? = some o ∧ g[id]? = some x ∧ ownB o x b) ∨ w.heap.size ≤ b)
    (hkeep : ∀ b, b < w.heap.size → ¬ (∃ (id : Nat) (o : Ob) (x : G), L id ∧ H[id]? = some o ∧ g[id]? = some x ∧ ownB o x b) → w'.heap[b]? = w.heap[b]?)
    (hsz : w.heap.size ≤ w'.heap.size) (hos : w'.os = w.os) (htp : w'.tape = w.tape) (hout : w'.output = w.output)
    (hlen : H'.length = g'.length) (hg : ∀ (id : Nat) (x : G), g[id]? = some x → g'[id]? = some x)
    (keys : ∀ (id : Nat) (o : Ob) (x : G), H'[id]? = some o → g'[id]? = some x → (¬ L id ∧ H[id]? = some o ∧ g[id]? = some x) ∨
      (ObOk g' Mn w' o x ∧ (∀ b, ownB o x b → (∃ (id : Nat) (o : Ob) (x : G), L id ∧ H[id]? = some o ∧ g[id]? = some x ∧ ownB o x b) ∨ w.heap.size ≤ b) ∧
        ∀ (id' : Nat) (o' : Ob) (x' : G) (b : Nat), H'[id']? = some o' → g'[id']? = some x' → ownB o x b → ownB o' x' b → id = id' ∨ (¬ L id' ∧ H[id']? = some o' ∧ g[id']? = some x'))) :
    HR H' g' Mn w' ∧ Ext g M g' Mn ∧ Base w M (Z.of H g) H' g' Mn w' := by
  have E : Ext g M g' Mn := ⟨fun id x hx => ⟨x, hg id x hx, Gle.refl x⟩, hle⟩
  have hold : ∀ (id : Nat) (o : Ob) (x : G) (b : Nat), ¬ L id → H[id]? = some o → g[id]? = some x → ownB o x b → b < w.heap.size ∧ w'.heap[b]? = w.heap[b]? ∧ Mn b = none ∧
      ¬ (∃ (id : Nat) (o : Ob) (x : G), L id ∧ H[id]? = some o ∧ g[id]? = some x ∧ ownB o x b) := by
    intro id o x b hL p1 p2 p3
    have hlt := Ev.own_lt (hr.ob id o x p1 p2) p3
    have hno : ¬ (∃ (id : Nat) (o : Ob) (x : G), L id ∧ H[id]? = some o ∧ g[id]? = some x ∧ ownB o x b) := by
      rintro ⟨id', o', x', q0, q1, q2, q3⟩
      have := hr.apart id id' o o' x x' b p1 p2 q1 q2 p3 q3
      subst this
      exact hL q0
    refine ⟨hlt.1, hkeep b hlt.1 hno, ?_, hno⟩
    cases e : Mn b with
    | none => rfl
    | some cs =>
      rcases hnew b cs e with k | k | k
      · rw [hlt.2] at k; cases k
      · exact absurd k hno
      · omega
  refine ⟨⟨hlen, ?_, ?_, hM⟩, E, ⟨hsz, ?_, ?_, hle, ?_, hos, htp, hout, fun id x hx => hg id x hx.1⟩⟩
  · intro id o x h1 h2
    rcases keys id o x h1 h2 with ⟨hL, q1, q2⟩ | ⟨q1, _, _⟩
    · exact (hr.ob id o x q1 q2).frame E fun b hb => ⟨(hold id o x b hL q1 q2 hb).2.1, (hold id o x b hL q1 q2 hb).2.2.1⟩
    · exact q1
  · intro id id' o o' x x' b h1 h2 h3 h4 h5 h6
    rcases keys id o x h1 h2 with ⟨hL, q1, q2⟩ | ⟨_, q2, q3⟩
    · rcases keys id' o' x' h3 h4 with ⟨hL', q1', q2'⟩ | ⟨_, q2', q3'⟩
      · exact hr.apart id id' o o' x x' b q1 q2 q1' q2' h5 h6
      · have := hold id o x b hL q1 q2 h5
        rcases q2' b h6 with k | k
        · exact absurd k this.2.2.2
        · omega
    · rcases q3 id' o' x' b h3 h4 h5 h6 with k | ⟨hL', q1', q2'⟩
      · exact k
      · have := hold id' o' x' b hL' q1' q2' h6
        rcases q2 b h5 with k | k
        · exact absurd k this.2.2.2
        · omega
  · intro b hb hn
    exact hkeep b hb fun ⟨id, o, x, _, q1, q2, q3⟩ => hn ⟨id, o, x, q1, q2, q3⟩
  · rintro b ⟨id, o, x, h1, h2, h3⟩
    rcases keys id o x h1 h2 with ⟨_, q1, q2⟩ | ⟨_, q2, _⟩
    · exact .inl ⟨id, o, x, q1, q2, h3⟩
    · rcases q2 b h3 with ⟨id, o, x, _, q1, q2, q3⟩ | k
      · exact .inl ⟨id, o, x, q1, q2, q3⟩
      · exact .inr k
  · intro b cs hb
    rcases hnew b cs hb with k | ⟨id, o, x, _, q1, q2, q3⟩ | k
    · exact .inl k
    · exact .inr (.inl ⟨id, o, x, q1, q2, q3⟩)
    · exact .inr (.inr k)

/-! ### values with slices that are handed over -/
inductive Po where
  | imm (t : Ty)
  | own (e : Ty)
  | deep (e : Ty)
@[reducible] def Po.den : Po → Type
  | .imm t => t.den
  | .own e => List e.den
  | .deep e => List e.den
@[reducible] def PD : List Po → Type
  | [] => Unit
  | p :: r => p.den × PD r
def encP : (ps : List Po) → PD ps → Nat → List V
  | [], _, _ => []
  | .imm t :: r, x, n => enc t x.1 ++ encP r x.2 n
  | .own _ :: r, x, n => .obj n 0 :: encP r x.2 (n + 1)
  | .deep _ :: r, x, n => .dob n 0 :: encP r x.2 (n + 1)
def thP : (ps : List Po) → PD ps → Heap
  | [], _ => []
  | .imm _ :: r, x => thP r x.2
  | .own e :: r, x => .sl 0 e x.1 :: thP r x.2
  | .deep e :: r, x => .dp 0 0 e x.1 :: thP r x.2
def cntP : List Po → Nat
  | [] => 0
  | .imm _ :: r => cntP r
  | .own _ :: r => cntP r + 1
  | .deep _ :: r => cntP r + 1
inductive RT where
  | cell (p : Po)
  | agg (ps : List Po)
@[reducible] def RT.den : RT → Type
  | .cell p => p.den
  | .agg ps => PD ps
@[reducible] def RD : List RT → Type
  | [] => Unit
  | r :: rs => r.den × RD rs
def cntR : RT → Nat
  | .cell (.imm _) => 0
  | .cell (.own _) => 1
  | .cell (.deep _) => 1
  | .agg ps => cntP ps
def valR : (r : RT) → r.den → Nat → V
  | .cell (.imm t), x, _ => (enc t x).headD .undef
  | .cell (.own _), _, n => .obj n 0
  | .cell (.deep _), _, n => .dob n 0
  | .agg ps, x, n => .agg (encP ps x n)
def thR : (r : RT) → r.den → Heap
  | .cell (.imm _), _ => []
  | .cell (.own e), xs => [.sl 0 e xs]
  | .cell (.deep e), xs => [.dp 0 0 e xs]
  | .agg ps, x => thP ps x
def valRs : (rs : List RT) → RD rs → Nat → List V
  | [], _, _ => []
  | r :: rs, x, n => valR r x.1 n :: valRs rs x.2 (n + cntR r)
def thRs : (rs : List RT) → RD rs → Heap
  | [], _ => []
  | r :: rs, x => thR r x.1 ++ thRs rs x.2
/-- What a function hands over, cell by cell. -/
def giveP : List Po → List (Option Ty)
  | [] => []
  | .imm t :: r => List.replicate t.size none ++ giveP r
  | .own e :: r => some (ownE e) :: giveP r
  | .deep e :: r => some e :: giveP r
def giveR : RT → List (Option Ty)
  | .cell (.imm _) => [none]
  | .cell (.own e) => [some (ownE e)]
  | .cell (.deep e) => [some e]
  | .agg ps => giveP ps

def allP (p : Ty → Bool) : List Po → Bool
  | [] => true
  | .imm t :: r => p t && allP p r
  | .own e :: r => p e && allP p r
  | .deep _ :: r => allP p r
def atom : Ty → Bool
  | .pair _ _ => false
  | .unit => false
  | _ => true
def allR (p : Ty → Bool) : RT → Bool
  | .cell (.imm t) => p t && atom t
  | .cell (.own e) => p e
  | .cell (.deep _) => true
  | .agg ps => allP p ps
def allRs (p : Ty → Bool) : List RT → Bool
  | [] => true
  | r :: rs => allR p r && allRs p rs

theorem thP_len : ∀ (ps : List Po) (x : PD ps), (thP ps x).length = cntP ps
  | [], _ => rfl
  | .imm _ :: r, x => by simp only [thP, cntP, thP_len r x.2]
  | .own _ :: r, x => by simp only [thP, cntP, List.length_cons, thP_len r x.2]
  | .deep _ :: r, x => by simp only [thP, cntP, List.length_cons, thP_len r x.2]
theorem thR_len : ∀ (r : RT) (x : r.den), (thR r x).length = cntR r
  | .cell (.imm _), _ => rfl
  | .cell (.own _), _ => rfl
  | .cell (.deep _), _ => rfl
  | .agg ps, x => thP_len ps x

section
variable {g1 g' : List G} {M1 Mn : Mem} {p : Ty → Bool} {n : Nat}
theorem encP_shift (hg : ∀ (j : Nat) (y : G), g1[j]? = some y → g'[n + j]? = some y) (hp : ∀ t, p t = true → ∀ (x : t.den) (cs : List Value), VRs g1 M1 (enc t x) cs → VRs g' Mn (enc t x) cs) :
    ∀ (ps : List Po) (x : PD ps) (k : Nat) {cs : List Value}, allP p ps = true → VRs g1 M1 (encP ps x k) cs → VRs g' Mn (encP ps x (n + k)) cs
  | [], _, _, _, _, h => by cases h; exact .nil
  | .imm t :: r, x, k, cs, ha, h => by
    simp only [allP, Bool.and_eq_true] at ha
    simp only [encP] at h ⊢
    obtain ⟨h1, h2⟩ := h.split
    have := (hp t ha.1 x.1 _ h1).append (encP_shift hg hp r x.2 k ha.2 h2)
    rwa [List.take_append_drop] at this
  | .own e :: r, x, k, cs, ha, h => by
    simp only [allP, Bool.and_eq_true] at ha
    simp only [encP] at h ⊢
    cases h with
    | cons a b =>
      refine .cons ?_ (encP_shift hg hp r x.2 (k + 1) ha.2 b)
      cases a with
      | obj _ _ ver' sz hh _ q1 q2 q3 q4 => exact .obj _ _ ver' sz hh _ (hg _ _ q1) q2 q3 q4
  | .deep e :: r, x, k, cs, ha, h => by
    simp only [allP] at ha
    simp only [encP] at h ⊢
    cases h with
    | cons a b =>
      refine .cons ?_ (encP_shift hg hp r x.2 (k + 1) ha b)
      cases a with
      | dob _ _ ver' iv sz bs ih hh _ q1 q2 q3 q4 => exact .dob _ _ ver' iv sz bs ih hh _ (hg _ _ q1) q2 q3 q4
theorem valR_shift (hg : ∀ (j : Nat) (y : G), g1[j]? = some y → g'[n + j]? = some y) (hp : ∀ t, p t = true → ∀ (x : t.den) (cs : List Value), VRs g1 M1 (enc t x) cs → VRs g' Mn (enc t x) cs) :
    ∀ (r : RT) (x : r.den) (k : Nat) {c : Value}, allR p r = true → VR g1 M1 (valR r x k) c → VR g' Mn (valR r x (n + k)) c
  | .cell (.imm t), x, k, c, ha, h => by
    simp only [allR, Bool.and_eq_true] at ha
    simp only [valR] at h ⊢
    cases t with
    | int k' => have := hp _ ha.1 x [c] (.cons h .nil); cases this with | cons a _ => exact a
    | float k' => have := hp _ ha.1 x [c] (.cons h .nil); cases this with | cons a _ => exact a
    | bool => have := hp _ ha.1 x [c] (.cons h .nil); cases this with | cons a _ => exact a
    | str => have := hp _ ha.1 x [c] (.cons h .nil); cases this with | cons a _ => exact a
    | slice t' => have := hp _ ha.1 x [c] (.cons h .nil); cases this with | cons a _ => exact a
    | unit => cases ha.2
    | pair a b => cases ha.2
  | .cell (.own e), x, k, c, ha, h => by
    simp only [valR] at h ⊢
    cases h with
    | obj _ _ ver' sz hh _ q1 q2 q3 q4 => exact .obj _ _ ver' sz hh _ (hg _ _ q1) q2 q3 q4
  | .cell (.deep e), x, k, c, ha, h => by
    simp only [valR] at h ⊢
    cases h with
    | dob _ _ ver' iv sz bs ih hh _ q1 q2 q3 q4 => exact .dob _ _ ver' iv sz bs ih hh _ (hg _ _ q1) q2 q3 q4
  | .agg ps, x, k, c, ha, h => by
    simp only [valR] at h ⊢
    cases h with
    | agg _ cs hvs => exact .agg _ cs (encP_shift hg hp ps x k ha hvs)
end

theorem valRs_shift {g1 g' : List G} {M1 Mn : Mem} {p : Ty → Bool} {n : Nat} (hg : ∀ (j : Nat) (y : G), g1[j]? = some y → g'[n + j]? = some y) (hp : ∀ t, p t = true → ∀ (x : t.den) (cs : List Value), VRs g1 M1 (enc t x) cs → VRs g' Mn (enc t x) cs) :
    ∀ (rs : List RT) (x : RD rs) (k : Nat) {cs : List Value}, allRs p rs = true → VRs g1 M1 (valRs rs x k) cs → VRs g' Mn (valRs rs x (n + k)) cs
  | [], _, _, _, _, h => by cases h; exact .nil
  | r :: rs, x, k, cs, ha, h => by
    simp only [allRs, Bool.and_eq_true] at ha
    cases h with
    | cons a b =>
      refine .cons (valR_shift hg hp r x.1 k ha.1 a) ?_
      rw [Nat.add_assoc]
      exact valRs_shift hg hp rs x.2 _ ha.2 b
theorem VR_tup {g g' : List G} {M M' : Mem} {vs us : List V} (hl : vs.length = us.length) (h : ∀ cs, VRs g M vs cs → VRs g' M' us cs) {c : Value} (hv : VR g M (tup vs) c) : VR g' M' (tup us) c := by
  match vs, us, hl with
  | [], [], _ => cases hv with | tuple _ cs hvs => exact .tuple _ cs (h _ hvs)
  | [v], [u], _ => cases h [c] (.cons hv .nil) with | cons a _ => exact a
  | _ :: _ :: _, _ :: _ :: _, _ => cases hv with | tuple _ cs hvs => exact .tuple _ cs (h _ hvs)
theorem valRs_len : ∀ (rs : List RT) (x : RD rs) (k : Nat), (valRs rs x k).length = rs.length
  | [], _, _ => rfl
  | r :: rs, x, k => by simp only [valRs, List.length_cons, valRs_len rs x.2]

/-- A thing that is handed over. -/
def Given (p : Ty → Bool) (o : Ob) : Prop := ∃ (e : Ty) (xs : List e.den), (o = .sl 0 e xs ∧ p e = true) ∨ o = .dp 0 0 e xs
theorem thP_given {p : Ty → Bool} : ∀ (ps : List Po) (x : PD ps), allP p ps = true → ∀ o ∈ thP ps x, Given p o
  | [], _, _, o, h => by cases h
  | .imm _ :: r, x, ha, o, h => by
    simp only [allP, Bool.and_eq_true] at ha
    exact thP_given r x.2 ha.2 o h
  | .own e :: r, x, ha, o, h => by
    simp only [allP, Bool.and_eq_true] at ha
    simp only [thP, List.mem_cons] at h
    rcases h with rfl | h
    · exact ⟨e, x.1, .inl ⟨rfl, ha.1⟩⟩
    · exact thP_given r x.2 ha.2 o h
  | .deep e :: r, x, ha, o, h => by
    simp only [allP] at ha
    simp only [thP, List.mem_cons] at h
    rcases h with rfl | h
    · exact ⟨e, x.1, .inr rfl⟩
    · exact thP_given r x.2 ha o h
theorem thRs_given {p : Ty → Bool} : ∀ (rs : List RT) (x : RD rs), allRs p rs = true → ∀ o ∈ thRs rs x, Given p o
  | [], _, _, o, h => by cases h
  | r :: rs, x, ha, o, h => by
    simp only [allRs, Bool.and_eq_true] at ha
    simp only [thRs, List.mem_append] at h
    rcases h with h | h
    · match r, x, ha, h with
      | .cell (.own e), x, ha, h =>
        simp only [thR, List.mem_singleton] at h
        exact ⟨e, x.1, .inl ⟨h, ha.1⟩⟩
      | .cell (.deep e), x, ha, h =>
        simp only [thR, List.mem_singleton] at h
        exact ⟨e, x.1, .inr h⟩
      | .agg ps, x, ha, h => exact thP_given ps x.1 ha.1 o h
    · exact thRs_given rs x.2 ha.2 o h
theorem ObOk.given {p : Ty → Bool} {g1 g' : List G} {M1 Mn : Mem} {w : World} (hp : ∀ t, p t = true → ∀ (x : t.den) (cs : List Value), VRs g1 M1 (enc t x) cs → VRs g' Mn (enc t x) cs) (hn : ∀ b, M1 b = none → Mn b = none) {o : Ob} (ho : Given p o) {x : G} (h : ObOk g1 M1 w o x) : ObOk g' Mn w o x := by
  obtain ⟨e, xs, ⟨rfl, hpe⟩ | rfl⟩ := ho
  rotate_left
  · cases x <;> simp only [ObOk] at h ⊢
    exact ⟨h.1, h.2.1, h.2.2.1, fun b hb => hn b (h.2.2.2.1 b hb), h.2.2.2.2⟩
  cases x <;> simp only [ObOk] at h ⊢
  obtain ⟨h1, h2, h3, h4⟩ := h
  refine ⟨h1, h2, h3, h4.imp id ?_⟩
  rintro ⟨b, cap, c, T, fz, rfl, k2, k3, k4, k5, k6, k7⟩
  exact ⟨b, cap, c, T, fz, rfl, k2, k3, k4, fun i x hx => hp e hpe _ _ (k5 i x hx), k6, hn b k7⟩

/-- A function that looks, and hands over new things. -/
def semV (l : List AT) (rs : List RT) (gd : ADen l → Bool) (f : ADen l → RD rs) : Sm := fun args H K =>
  bif immuts args then
    match decAs l args with
    | some x => cond (gd x) (K (tup (valRs rs (f x) H.length)) (H ++ thRs rs (f x))) False
    | none => False
  else bif allRs flatTy rs then
    match views3 H args with
    | some args' => match decAs l args' with
      | some x => cond (gd x) (K (tup (valRs rs (f x) H.length)) (H ++ thRs rs (f x))) False
      | none => False
    | none => False
  else False

theorem semV_glue {P : Program} {k : FuncId} {S : Sm} (hS : FnOkO P k S) {args' : List V} {rs : List RT} {y : RD rs} (h : ∀ K : V → Heap → Prop, K (tup (valRs rs y 0)) (thRs rs y) → S args' [] K)
    {w : World} {g : List G} {M Mv : Mem} {H : Heap} (hr : HR H g M w) {cargs : List Value} (ha : VRs [] Mv args' cargs) (hMv : MemOk Mv w) (hGv : GamOk P Mv) (hlv : ∀ b cs, M b = some cs → Mv b = some cs)
    {p : Ty → Bool} (hrs : allRs p rs = true) (hmode : Mv = M ∨ ∀ t, p t = true → flatTy t = true) :
    CallsX P k cargs.toArray w fun val w' => ∃ g' M', VR g' M' (tup (valRs rs y H.length)) val ∧ HR (H ++ thRs rs y) g' M' w' ∧ Ext g M g' M' ∧ Base w M (Z.of H g) (H ++ thRs rs y) g' M' w' := by
  obtain ⟨v, H1, h1, h2, h3⟩ := hS args' [] (fun v hs => v = tup (valRs rs y 0) ∧ hs = thRs rs y) (h _ ⟨rfl, rfl⟩)
  obtain ⟨rfl, rfl⟩ := h1
  have hr1 : HR [] [] Mv w := ⟨rfl, (by intro j o y p1; cases p1), (by intro j j' o o' y y' b p1; cases p1), hMv⟩
  refine (h3 w [] Mv _ ha hr1 hGv).mono ?_
  rintro val w' ⟨g1, M1, q1, q2, q3, q4⟩
  have hno : ∀ b, ¬ Own ([] : Heap) ([] : List G) b := by rintro b ⟨j, o, y, p1, _⟩; cases p1
  have hgn : ∀ (j : Nat) (y : G), g1[j]? = some y → (g ++ g1)[g.length + j]? = some y := fun j y hj => by
    rw [List.getElem?_append_right (by omega), show g.length + j - g.length = j by omega]; exact hj
  -- the memory that stays
  have key : ∃ Mn : Mem, MemOk Mn w' ∧ (∀ b cs, M b = some cs → Mn b = some cs) ∧ (∀ b cs, Mn b = some cs → M b = some cs ∨ w.heap.size ≤ b) ∧ (∀ b, M1 b = none → Mn b = none) ∧
      (∀ t, p t = true → ∀ (x : t.den) (cs : List Value), VRs g1 M1 (enc t x) cs → VRs (g ++ g1) Mn (enc t x) cs) := by
    rcases hmode with rfl | hflat
    · refine ⟨M1, q2.mem, q4.mle, fun b cs hb => ?_, fun _ h => h, fun t _ x cs hx => hx.imm (immuts_enc t x)⟩
      rcases q4.mnew b cs hb with k | k | k
      · exact .inl k
      · exact absurd k (hno b)
      · exact .inr k
    · refine ⟨M, ?_, fun _ _ h => h, fun _ _ h => .inl h, fun b hb => ?_, fun t ht x cs hx => hx.flat (flats_enc t x (hflat t ht))⟩
      · intro b cs hb
        obtain ⟨c, T, fz, k1, k2⟩ := hr.mem b cs hb
        exact ⟨c, T, fz, (q4.keep b (lt_of_cells k1) (hno b)).trans k1, k2⟩
      · cases e : M b with
        | none => rfl
        | some cs => rw [q4.mle b cs (hlv b cs e)] at hb; cases hb
  obtain ⟨Mn, m1, m2, m3, m4, m5⟩ := key
  have hgl := hr.len
  have hcase : ∀ (id : Nat) (o : Ob) (x : G), (H ++ thRs rs y)[id]? = some o → (g ++ g1)[id]? = some x → (id < H.length ∧ H[id]? = some o ∧ g[id]? = some x) ∨ (H.length ≤ id ∧ (thRs rs y)[id - H.length]? = some o ∧ g1[id - H.length]? = some x) := by
    intro id o x p1 p2
    rcases Nat.lt_or_ge id H.length with hl | hl
    · rw [List.getElem?_append_left hl] at p1
      rw [List.getElem?_append_left (by omega)] at p2
      exact .inl ⟨hl, p1, p2⟩
    · rw [List.getElem?_append_right hl] at p1
      rw [List.getElem?_append_right (by omega), ← hgl] at p2
      exact .inr ⟨hl, p1, p2⟩
  obtain ⟨r1, r2, r3⟩ := glue (L := fun _ => False) (H' := H ++ thRs rs y) (g' := g ++ g1) hr m1 m2 (fun b cs hb => (m3 b cs hb).imp id .inr) (fun b hb _ => q4.keep b hb (hno b)) q4.size q4.os q4.tape q4.output
    (by simp [hgl, q2.len]) (fun id x hx => by rw [List.getElem?_append_left (lt_of_get hx)]; exact hx) (by
      intro id o x p1 p2
      rcases hcase id o x p1 p2 with ⟨_, k1, k2⟩ | ⟨hl, k1, k2⟩
      · exact .inl ⟨fun h => h, k1, k2⟩
      · refine .inr ⟨ObOk.given m5 m4 (thRs_given rs y hrs o (List.mem_of_getElem? k1)) (q2.ob _ o x k1 k2), fun b hb => .inr ?_, ?_⟩
        · rcases q4.own b ⟨_, o, x, k1, k2, hb⟩ with k | k
          · exact absurd k (hno b)
          · exact k
        · intro id' o' x' b p3 p4 p5 p6
          rcases hcase id' o' x' p3 p4 with ⟨_, k3, k4⟩ | ⟨hl', k3, k4⟩
          · exact .inr ⟨fun h => h, k3, k4⟩
          · have := q2.apart _ _ o o' x x' b k1 k2 k3 k4 p5 p6
            exact .inl (by omega))
  refine ⟨g ++ g1, Mn, ?_, r1, r2, r3⟩
  have := VR_tup (g := g1) (M := M1) (g' := g ++ g1) (M' := Mn) (vs := valRs rs y 0) (us := valRs rs y (g.length + 0)) (by rw [valRs_len, valRs_len]) (fun cs hcs => valRs_shift hgn m5 rs y 0 hrs hcs) q1
  rw [Nat.add_zero, ← hgl] at this
  exact this

theorem allP_mono {p q : Ty → Bool} (h : ∀ t, p t = true → q t = true) : ∀ ps, allP p ps = true → allP q ps = true
  | [], _ => rfl
  | .imm t :: r, ha => by simp only [allP, Bool.and_eq_true] at ha ⊢; exact ⟨h t ha.1, allP_mono h r ha.2⟩
  | .own t :: r, ha => by simp only [allP, Bool.and_eq_true] at ha ⊢; exact ⟨h t ha.1, allP_mono h r ha.2⟩
  | .deep t :: r, ha => by simp only [allP] at ha ⊢; exact allP_mono h r ha

theorem fnOkO_give0 {P : Program} {k : FuncId} {S : Sm} (hS : FnOkO P k S) {l : List AT} {rs : List RT} {gd : ADen l → Bool} {f : ADen l → RD rs} (hrs : allRs (fun _ => true) rs = true)
    (h : ∀ (x : ADen l), WfAs l x → gd x = true → ∀ (K : V → Heap → Prop), K (tup (valRs rs (f x) 0)) (thRs rs (f x)) → S (encAs l x) [] K) : FnOkO P k (semV l rs gd f) := by
  intro args H K hk
  unfold semV at hk
  cases hi : immuts args with
  | true =>
    simp only [hi, cond_true] at hk
    split at hk
    · rename_i x hx
      cases hgd : gd x with
      | false => simp only [hgd, cond_false] at hk
      | true =>
        simp only [hgd, cond_true] at hk
        refine ⟨_, _, hk, fun K' h' => by simp only [semV, hi, hx, hgd, cond_true]; exact h', ?_⟩
        intro w g M cargs hv hr hG
        have hwx : WfAs l x := wfAs_of hx hv
        exact semV_glue hS (h x hwx hgd) hr ((decAs_sound hx hv).imm (immuts_encAs l x)) hr.mem hG (fun _ _ h => h) hrs (.inl rfl)
    · exact hk.elim
  | false =>
    simp only [hi, cond_false] at hk
    cases hf : allRs flatTy rs with
    | false => simp only [hf, cond_false] at hk
    | true =>
      simp only [hf, cond_true] at hk
      split at hk
      · rename_i args' hv'
        split at hk
        · rename_i x hx
          cases hgd : gd x with
          | false => simp only [hgd, cond_false] at hk
          | true =>
            simp only [hgd, cond_true] at hk
            refine ⟨_, _, hk, fun K' h' => by simp only [semV, hi, hf, hv', hx, hgd, cond_true, cond_false]; exact h', ?_⟩
            intro w g M cargs hv hr hG
            have hvv := views3_sound hr hv hv'
            have hwx : WfAs l x := wfAs_of hx hvv
            exact semV_glue hS (h x hwx hgd) hr ((decAs_sound hx hvv).imm (immuts_encAs l x)) (memAll_ok hr) (hG.mono (memAll_le H g M w)) (memAll_le H g M w) hf (.inr fun _ h => h)
        · exact hk.elim
      · exact hk.elim
theorem semV_local (l : List AT) (rs : List RT) (gd : ADen l → Bool) (f : ADen l → RD rs) : LocalS (semV l rs gd f) := by
  intro v r H K hk
  unfold semV at hk ⊢
  cases hi : immuts (v :: r) with
  | true =>
    simp only [hi, cond_true] at hk ⊢
    split at hk
    · rename_i x hx
      cases hgd : gd x with
      | false => simp only [hgd, cond_false] at hk
      | true =>
        simp only [hgd, cond_true] at hk ⊢
        exact ⟨hk, .of fun _ => .app _ _ _⟩
    · exact hk.elim
  | false =>
    simp only [hi, cond_false] at hk ⊢
    cases hf : allRs flatTy rs with
    | false => simp only [hf, cond_false] at hk
    | true =>
      simp only [hf, cond_true] at hk ⊢
      split at hk
      · rename_i args' hv'
        split at hk
        · rename_i x hx
          cases hgd : gd x with
          | false => simp only [hgd, cond_false] at hk
          | true =>
            simp only [hgd, cond_true] at hk ⊢
            exact ⟨hk, .of fun _ => .app _ _ _⟩
        · exact hk.elim
      · exact hk.elim
theorem semV_localE (l : List AT) (rs : List RT) (gd : ADen l → Bool) (f : ADen l → RD rs) : LocalE (semV l rs gd f) := by
  intro v r H K tt _ hk
  unfold semV at hk ⊢
  cases hi : immuts (v :: r) with
  | true =>
    simp only [hi, cond_true] at hk ⊢
    split at hk
    · rename_i x hx
      cases hgd : gd x with
      | false => simp only [hgd, cond_false] at hk
      | true =>
        simp only [hgd, cond_true] at hk ⊢
        exact ⟨hk, .app _ _ _⟩
    · exact hk.elim
  | false =>
    simp only [hi, cond_false] at hk ⊢
    cases hf : allRs flatTy rs with
    | false => simp only [hf, cond_false] at hk
    | true =>
      simp only [hf, cond_true] at hk ⊢
      split at hk
      · rename_i args' hv'
        split at hk
        · rename_i x hx
          cases hgd : gd x with
          | false => simp only [hgd, cond_false] at hk
          | true =>
            simp only [hgd, cond_true] at hk ⊢
            exact ⟨hk, .app _ _ _⟩
        · exact hk.elim
      · exact hk.elim
theorem fnOkO_give {P : Program} {k : FuncId} {S : Sm} (hS : FnOkO P k S) {l : List AT} {rs : List RT} {gd : ADen l → Bool} {f : ADen l → RD rs} (hrs : allRs (fun _ => true) rs = true)
    (h : ∀ (x : ADen l), WfAs l x → gd x = true → ∀ (K : V → Heap → Prop), K (tup (valRs rs (f x) 0)) (thRs rs (f x)) → S (encAs l x) [] K) : FnOkL P k (semV l rs gd f) := ⟨fnOkO_give0 hS hrs h, semV_local _ _ _ _⟩

theorem encP_from {g g' : List G} {M : Mem} {n : Nat} (hg : ∀ (j : Nat) (y : G), n ≤ j → g[j]? = some y → g'[j]? = some y) : ∀ (ps : List Po) (x : PD ps) (k : Nat) {cs : List Value}, n ≤ k → VRs g M (encP ps x k) cs → VRs g' M (encP ps x k) cs
  | [], _, _, _, _, h => by cases h; exact .nil
  | .imm t :: r, x, k, cs, hk, h => by
    simp only [encP] at h ⊢
    obtain ⟨h1, h2⟩ := h.split
    have := (h1.imm (g' := g') (immuts_enc t x.1)).append (encP_from hg r x.2 k hk h2)
    rwa [List.take_append_drop] at this
  | .own e :: r, x, k, cs, hk, h => by
    simp only [encP] at h ⊢
    cases h with
    | cons a b =>
      refine .cons ?_ (encP_from hg r x.2 (k + 1) (by omega) b)
      cases a with
      | obj _ _ ver' sz hh _ q1 q2 q3 q4 => exact .obj _ _ ver' sz hh _ (hg _ _ hk q1) q2 q3 q4
  | .deep e :: r, x, k, cs, hk, h => by
    simp only [encP] at h ⊢
    cases h with
    | cons a b =>
      refine .cons ?_ (encP_from hg r x.2 (k + 1) (by omega) b)
      cases a with
      | dob _ _ ver' iv sz bs ih hh _ q1 q2 q3 q4 => exact .dob _ _ ver' iv sz bs ih hh _ (hg _ _ hk q1) q2 q3 q4
theorem valRs_from {g g' : List G} {M : Mem} {n : Nat} (hg : ∀ (j : Nat) (y : G), n ≤ j → g[j]? = some y → g'[j]? = some y) : ∀ (rs : List RT) (x : RD rs) (k : Nat) {cs : List Value}, n ≤ k → VRs g M (valRs rs x k) cs → VRs g' M (valRs rs x k) cs
  | [], _, _, _, _, h => by cases h; exact .nil
  | r :: rs, x, k, cs, hk, h => by
    simp only [valRs] at h ⊢
    cases h with
    | cons a b =>
      refine .cons ?_ (valRs_from hg rs x.2 _ (by omega) b)
      match r, x, a with
      | .cell (.imm t), x, a =>
        simp only [valR] at a ⊢
        refine a.imm ?_
        have := immuts_enc t x.1
        cases e : enc t x.1 with
        | nil => rfl
        | cons v vs => rw [e] at this; simp only [immuts, Bool.and_eq_true] at this; exact this.1
      | .cell (.own e), x, a =>
        simp only [valR] at a ⊢
        cases a with
        | obj _ _ ver' sz hh _ q1 q2 q3 q4 => exact .obj _ _ ver' sz hh _ (hg _ _ hk q1) q2 q3 q4
      | .cell (.deep e), x, a =>
        simp only [valR] at a ⊢
        cases a with
        | dob _ _ ver' iv sz bs ih hh _ q1 q2 q3 q4 => exact .dob _ _ ver' iv sz bs ih hh _ (hg _ _ hk q1) q2 q3 q4
      | .agg ps, x, a =>
        simp only [valR] at a ⊢
        cases a with
        | agg _ cs hvs => exact .agg _ cs (encP_from hg ps x.1 k hk hvs)

/-- A function that writes a box and hands over new things. -/
def semPG (t : Ty) (l : List AT) (rs : List RT) (gd : t.den → ADen l → Bool) (f : t.den → ADen l → RD rs × t.den) : Sm := fun args H K =>
  match args with
  | .ptr id off :: r =>
    match H[id]? with
    | some (.box cells) =>
      match dec t cells with
      | some (s, []) =>
        match decAs l r with
        | some x => bif Nat.beq off 0 then cond (gd s x) (K (tup (valRs rs (f s x).1 H.length)) (H.set id (.box (enc t (f s x).2)) ++ thRs rs (f s x).1)) False else False
        | none => False
      | _ => False
    | _ => False
  | _ => False

theorem fnOkO_boxg0 {P : Program} {k : FuncId} {S : Sm} (hS : FnOkO P k S) {t : Ty} {l : List AT} {rs : List RT} {gd : t.den → ADen l → Bool} {f : t.den → ADen l → RD rs × t.den} (hrs : allRs (fun _ => true) rs = true)
    (h : ∀ (s : t.den) (x : ADen l), Wf t s → WfAs l x → gd s x = true → ∀ (K : V → Heap → Prop), K (tup (valRs rs (f s x).1 1)) (.box (enc t (f s x).2) :: thRs rs (f s x).1) → S (.ptr 0 0 :: encAs l x) [.box (enc t s)] K) : FnOkO P k (semPG t l rs gd f) := by
  intro args H K hk
  simp only [semPG] at hk
  split at hk
  · rename_i id off r
    split at hk
    · rename_i cells hid
      split at hk
      · rename_i s hd
        split at hk
        · rename_i x hx
          cases hoff : Nat.beq off 0 with
          | false => simp only [hoff, cond_false] at hk
          | true =>
            simp only [hoff, cond_true] at hk
            cases hgd : gd s x with
            | false => simp only [hgd, cond_false] at hk
            | true =>
            simp only [hgd, cond_true] at hk
            refine ⟨_, _, hk, fun K' h' => by simp only [semPG, hid, hd, hx, hoff, hgd, cond_true]; exact h', ?_⟩
            replace hoff := beq_true hoff
            subst hoff
            intro w g M cargs hv hr hG
            cases hv with
            | cons hp hrest =>
            cases hp with
            | ptr _ _ b hb =>
            have hob := hr.ob id _ _ hid hb
            simp only [ObOk] at hob
            obtain ⟨c, T, fz, k1, k2, k3, k4⟩ := hob
            obtain ⟨d1, d2⟩ := dec_sound t hd k2
            have hcl : c.toList.length = t.size := by
              have := d2.length
              have := d1.length
              rw [enc_length] at this
              simp at *
              omega
            have d1' : VRs g M (enc t s) c.toList := by rwa [List.take_of_length_le (by omega)] at d1
            have hws : Wf t s := wf_of_VRs t s d1'
            have hwx : WfAs l x := wfAs_of hx hrest
            generalize hys : (f s x).1 = ys at *
            generalize hs' : (f s x).2 = s' at *
            obtain ⟨v, H1, h1, h2, h3⟩ := hS (.ptr 0 0 :: encAs l x) [.box (enc t s)] (fun v hs => v = tup (valRs rs ys 1) ∧ hs = .box (enc t s') :: thRs rs ys) (h s x hws hwx hgd _ ⟨by rw [hys], by rw [hys, hs']⟩)
            obtain ⟨rfl, rfl⟩ := h1
            have hr1 : HR [.box (enc t s)] [.box b] M w := by
              refine ⟨rfl, ?_, ?_, hr.mem⟩
              · intro j o y p1 p2
                match j, p1, p2 with
                | 0, p1, p2 => cases p1; cases p2; exact ⟨c, T, fz, k1, d1'.imm (immuts_enc t s), k3, k4⟩
              · intro j j' o o' y y' b' p1 p2 p3 p4 _ _
                match j, j', p1, p3 with
                | 0, 0, _, _ => rfl
            refine (h3 w [.box b] M _ (.cons (.ptr 0 0 b rfl) ((decAs_sound hx hrest).imm (immuts_encAs l x))) hr1 hG).mono ?_
            rintro val w' ⟨g1, M1, q1, q2, q3, q4⟩
            have hown1 : ∀ b', Own [.box (enc t s)] [.box b] b' → b' = b := fun b' hb' => own_one hb'
            have hL : ∀ b', Own [.box (enc t s)] [.box b] b' → ∃ (i : Nat) (o : Ob) (x : G), i = id ∧ H[i]? = some o ∧ g[i]? = some x ∧ ownB o x b' := by
              intro b' hb'
              have := hown1 b' hb'
              subst this
              exact ⟨id, _, _, rfl, hid, hb, rfl⟩
            have hg10 : g1[0]? = some (.box b) := q4.gbox 0 (.box b) ⟨rfl, rfl⟩
            have hg1l : g1.length = (thRs rs ys).length + 1 := by rw [← q2.len]; rfl
            have hgl := hr.len
            have hlt : id < H.length := lt_of_get hid
            have hcase : ∀ (j : Nat) (o : Ob) (x : G), (H.set id (.box (enc t s')) ++ thRs rs ys)[j]? = some o → (g ++ g1.drop 1)[j]? = some x →
                (j ≠ id ∧ j < H.length ∧ H[j]? = some o ∧ g[j]? = some x) ∨ (j = id ∧ o = .box (enc t s') ∧ x = .box b) ∨ (H.length ≤ j ∧ (thRs rs ys)[j - H.length]? = some o ∧ g1[j - H.length + 1]? = some x) := by
              intro j o x p1 p2
              rcases Nat.lt_or_ge j H.length with hl | hl
              · rw [List.getElem?_append_left (by simpa using hl)] at p1
                rw [List.getElem?_append_left (by omega)] at p2
                by_cases e : j = id
                · subst e
                  rw [List.getElem?_set_self hl] at p1
                  cases p1
                  rw [hb] at p2; cases p2
                  exact .inr (.inl ⟨rfl, rfl, rfl⟩)
                · rw [List.getElem?_set_ne (fun e' => e e'.symm)] at p1
                  exact .inl ⟨e, hl, p1, p2⟩
              · rw [List.getElem?_append_right (by simpa using hl)] at p1
                rw [List.getElem?_append_right (by omega), ← hgl, List.getElem?_drop, Nat.add_comm 1] at p2
                simp only [List.length_set] at p1
                exact .inr (.inr ⟨hl, p1, p2⟩)
            have hgn : ∀ (j : Nat) (y : G), 1 ≤ j → g1[j]? = some y → (g ++ g1.drop 1)[g.length - 1 + j]? = some y := fun j y hj1 hj => by
              rw [List.getElem?_append_right (by omega), List.getElem?_drop, show 1 + (g.length - 1 + j - g.length) = j by omega]; exact hj
            obtain ⟨r1, r2, r3⟩ := glue (L := fun i => i = id) (H' := H.set id (.box (enc t s')) ++ thRs rs ys) (g' := g ++ g1.drop 1) (w' := w') (Mn := M1) hr q2.mem q4.mle
              (fun b' cs hb' => by
                rcases q4.mnew b' cs hb' with k | k | k
                · exact .inl k
                · exact .inr (.inl (hL b' k))
                · exact .inr (.inr k))
              (fun b' hb' hn => q4.keep b' hb' fun ho => hn (hL b' ho)) q4.size q4.os q4.tape q4.output (by simp [hgl, hg1l]) (fun i x hx => by rw [List.getElem?_append_left (lt_of_get hx)]; exact hx) (by
                intro j o x p1 p2
                rcases hcase j o x p1 p2 with ⟨hne, _, k1, k2⟩ | ⟨rfl, rfl, rfl⟩ | ⟨hl, k1, k2⟩
                · exact .inl ⟨hne, k1, k2⟩
                · have hob1 := q2.ob 0 _ _ rfl hg10
                  simp only [ObOk] at hob1
                  obtain ⟨c', T', fz', m1, m2, m3, m4⟩ := hob1
                  refine .inr ⟨⟨c', T', fz', m1, m2.imm (immuts_enc t _), m3, m4⟩, fun b' hb' => .inl ?_, ?_⟩
                  · simp only [ownB] at hb'
                    subst hb'
                    exact ⟨j, _, _, rfl, hid, hb, rfl⟩
                  · intro j' o' x' b' p3 p4 p5 p6
                    simp only [ownB] at p5
                    subst p5
                    rcases hcase j' o' x' p3 p4 with ⟨hne', _, k3, k4⟩ | ⟨rfl, _, _⟩ | ⟨hl', k3, k4⟩
                    · exact .inr ⟨hne', k3, k4⟩
                    · exact .inl rfl
                    · exfalso
                      have := q2.apart 0 (j' - H.length + 1) _ o' _ x' b rfl hg10 (by simpa using k3) k4 rfl p6
                      omega
                · have hk1 : (Ob.box (enc t s') :: thRs rs ys)[j - H.length + 1]? = some o := by simpa using k1
                  refine .inr ⟨ObOk.given (p := fun _ => true) (g1 := g1) (M1 := M1) (fun t _ x cs hx => hx.imm (immuts_enc t x)) (fun _ h => h) (thRs_given rs ys hrs o (List.mem_of_getElem? k1)) (q2.ob _ o x hk1 k2), fun b' hb' => ?_, ?_⟩
                  · rcases q4.own b' ⟨_, o, x, hk1, k2, hb'⟩ with k | k
                    · exact .inl (hL b' k)
                    · exact .inr k
                  · intro j' o' x' b' p3 p4 p5 p6
                    rcases hcase j' o' x' p3 p4 with ⟨hne', _, k3, k4⟩ | ⟨rfl, rfl, rfl⟩ | ⟨hl', k3, k4⟩
                    · exact .inr ⟨hne', k3, k4⟩
                    · exfalso
                      have := q2.apart 0 (j - H.length + 1) _ o _ x b' rfl hg10 hk1 k2 p6 p5
                      omega
                    · have := q2.apart _ _ o o' x x' b' hk1 k2 (show (Ob.box (enc t s') :: thRs rs ys)[j' - H.length + 1]? = some o' by simpa using k3) k4 p5 p6
                      exact .inl (by omega))
            refine ⟨g ++ g1.drop 1, M1, ?_, r1, r2, r3⟩
            have hpos : 0 < H.length := by omega
            -- the results' numbers begin behind the box
            have := VR_tup (g := g1) (M := M1) (g' := g ++ g1.drop 1) (M' := M1) (vs := valRs rs ys 1) (us := valRs rs ys H.length) (by rw [valRs_len, valRs_len]) (fun cs hcs => ?_) q1
            · exact this
            · have hsh := valRs_shift (g1 := .box b :: g1.drop 1) (n := H.length - 1) (g' := (List.replicate (H.length - 1) (G.box b)) ++ (.box b :: g1.drop 1)) (M1 := M1) (Mn := M1) (p := fun _ => true) (fun j y hj => by
                rw [List.getElem?_append_right (by simp), List.length_replicate, Nat.add_sub_cancel_left]; exact hj) (fun t _ x cs hx => hx.imm (immuts_enc t x)) rs ys 1 (cs := cs) hrs
              have hg1e : G.box b :: g1.drop 1 = g1 := by
                cases g1 with
                | nil => cases hg10
                | cons y r => simp at hg10; subst hg10; rfl
              rw [hg1e] at hsh
              have h5 := hsh hcs
              rw [show H.length - 1 + 1 = H.length by omega] at h5
              -- only numbers from there on are spoken of
              exact valRs_from (n := H.length) (fun j y hj hy => by
                rw [List.getElem?_append_right (by simp; omega), List.length_replicate] at hy
                have := hgn (j - (H.length - 1)) y (by omega) hy
                rw [show g.length - 1 + (j - (H.length - 1)) = j by omega] at this
                exact this) rs ys H.length (Nat.le_refl _) h5
        · exact hk.elim
      · exact hk.elim
    · exact hk.elim
  · exact hk.elim
theorem semPG_local (t : Ty) (l : List AT) (rs : List RT) (gd : t.den → ADen l → Bool) (f : t.den → ADen l → RD rs × t.den) : LocalS (semPG t l rs gd f) := by
  intro v r H K h
  cases v <;> simp only [semPG] at h ⊢
  rename_i id off
  split at h
  · rename_i cells hid
    split at h
    · rename_i s hd
      split at h
      · rename_i x hx
        cases hi : Nat.beq off 0 with
        | false => simp only [hi, cond_false] at h
        | true =>
          cases hg : gd s x with
          | false => simp only [hi, hg, cond_true, cond_false] at h
          | true =>
            simp only [hi, hg, cond_true] at h
            simp only [hid, hd, hx, hi, hg, cond_true]
            exact ⟨h, .ptr ((BoxesStay.set _ _ _).trans (.app _ _ _))⟩
      · exact h.elim
    · exact h.elim
  · exact h.elim
theorem semPG_localE (t : Ty) (l : List AT) (rs : List RT) (gd : t.den → ADen l → Bool) (f : t.den → ADen l → RD rs × t.den) : LocalE (semPG t l rs gd f) := by
  intro v r H K tt ht h
  cases v <;> simp only [semPG] at h ⊢
  rename_i id off
  have ht : tt = some id := by
    unfold touchL at ht
    cases hi : immuts r with
    | false => simp only [hi, cond_false] at ht; cases ht
    | true => simp only [hi, cond_true, cond_false] at ht; cases ht; rfl
  subst ht
  split at h
  · rename_i cells hid
    split at h
    · rename_i s hd
      split at h
      · rename_i x hx
        cases hi : Nat.beq off 0 with
        | false => simp only [hi, cond_false] at h
        | true =>
          cases hg : gd s x with
          | false => simp only [hi, hg, cond_true, cond_false] at h
          | true =>
            simp only [hi, hg, cond_true] at h
            simp only [hid, hd, hx, hi, hg, cond_true]
            exact ⟨h, (StayE.set _ _ _).trans (.app _ _ _)⟩
      · exact h.elim
    · exact h.elim
  · exact h.elim
theorem fnOkO_boxg {P : Program} {k : FuncId} {S : Sm} (hS : FnOkO P k S) {t : Ty} {l : List AT} {rs : List RT} {gd : t.den → ADen l → Bool} {f : t.den → ADen l → RD rs × t.den} (hrs : allRs (fun _ => true) rs = true)
    (h : ∀ (s : t.den) (x : ADen l), Wf t s → WfAs l x → gd s x = true → ∀ (K : V → Heap → Prop), K (tup (valRs rs (f s x).1 1)) (.box (enc t (f s x).2) :: thRs rs (f s x).1) → S (.ptr 0 0 :: encAs l x) [.box (enc t s)] K) : FnOkL P k (semPG t l rs gd f) :=
  ⟨fnOkO_boxg0 hS hrs h, semPG_local _ _ _ _ _⟩

/-! ### calls that write their caller's slices in place -/
/-- A value's parts; its own slices by their numbers. -/
def decP (H : Heap) : (ps : List Po) → List V → Option (PD ps × List Nat)
  | [], [] => some ((), [])
  | [], _ :: _ => none
  | .imm t :: r, vs => match dec t vs with
    | some (x, vs') => match decP H r vs' with
      | some (y, L) => some ((x, y), L)
      | none => none
    | none => none
  | .own _ :: _, [] => none
  | .own e :: r, v :: vs => match v with
    | .obj id ver => match H[id]? with
      | some (.sl ver' t xs) => bif Nat.beq ver ver' then (if h : t = e then (match decP H r vs with
        | some (y, L) => some ((h ▸ xs, y), id :: L)
        | none => none) else none) else none
      | _ => none
    | _ => none
  | .deep _ :: _, [] => none
  | .deep e :: r, v :: vs => match v with
    | .dob id ver => match H[id]? with
      | some (.dp ver' iv t xs) => bif Nat.beq ver ver' then (if h : t = e then (match decP H r vs with
        | some (y, L) => some ((h ▸ xs, y), id :: L)
        | none => none) else none) else none
      | _ => none
    | _ => none
def verAt (H : Heap) (id : Nat) : Nat := match H[id]? with | some (.sl ver _ _) => ver | some (.dp ver _ _ _) => ver | _ => 0
def ivAt (H : Heap) (id : Nat) : Nat := match H[id]? with | some (.dp _ iv _ _) => iv | _ => 0
def reV (ver iv : Nat) : Ob → Ob
  | .sl _ e xs => .sl ver e xs
  | .dp _ _ e xs => .dp ver iv e xs
  | o => o
def putL (H : Heap) : List Nat → Heap → Heap
  | [], _ => H
  | _ :: _, [] => H
  | id :: L, o :: r => (putL H L r).set id (reV (verAt H id) (ivAt H id) o)
def encI (H : Heap) : (ps : List Po) → PD ps → List Nat → List V
  | [], _, _ => []
  | .imm t :: r, x, L => enc t x.1 ++ encI H r x.2 L
  | .own _ :: r, x, id :: L => .obj id (verAt H id) :: encI H r x.2 L
  | .own _ :: r, x, [] => .undef :: encI H r x.2 []
  | .deep _ :: r, x, id :: L => .dob id (verAt H id) :: encI H r x.2 L
  | .deep _ :: r, x, [] => .undef :: encI H r x.2 []
def cellsM (ag : Bool) (v : V) : Option (List V) := bif ag then (match v with | .agg vs => some vs | _ => none) else some [v]
def ofCells (ag : Bool) (vs : List V) : V := bif ag then .agg vs else vs.headD .undef

/-- A thing, and as it is handed to a call. -/
def Zed (o0 o : Ob) : Prop := (∃ (ver : Nat) (e : Ty) (xs : List e.den), o0 = .sl ver e xs ∧ o = .sl 0 e xs) ∨ (∃ (ver iv : Nat) (e : Ty) (xs : List e.den), o0 = .dp ver iv e xs ∧ o = .dp 0 0 e xs)
theorem Zed.given {o0 o : Ob} (h : Zed o0 o) : Given (fun _ => true) o := by
  rcases h with ⟨ver, e, xs, _, h⟩ | ⟨ver, iv, e, xs, _, h⟩
  · exact ⟨e, xs, .inl ⟨h, rfl⟩⟩
  · exact ⟨e, xs, .inr h⟩
theorem Zed.noBox {o0 o : Ob} (h : Zed o0 o) (cells : List V) : o0 ≠ .box cells := by
  rcases h with ⟨ver, e, xs, h, _⟩ | ⟨ver, iv, e, xs, h, _⟩ <;> rw [h] <;> intro e' <;> cases e'

theorem decP_things {H : Heap} : ∀ {ps : List Po} {vs : List V} {s : PD ps} {L : List Nat}, decP H ps vs = some (s, L) → L.length = cntP ps ∧
    ∀ (k : Nat) (o : Ob), (thP ps s)[k]? = some o → ∃ (id : Nat) (o0 : Ob), L[k]? = some id ∧ H[id]? = some o0 ∧ Zed o0 o
  | [], [], s, L, h => by simp only [decP] at h; cases h; exact ⟨rfl, by intro k o hk; simp [thP] at hk⟩
  | [], _ :: _, _, _, h => by simp only [decP] at h; cases h
  | .imm t :: r, vs, s, L, h => by
    simp only [decP] at h
    split at h
    · split at h
      · rename_i y L' h2
        cases h
        exact decP_things (ps := r) h2
      · cases h
    · cases h
  | .own e :: r, [], s, L, h => by simp only [decP] at h; cases h
  | .own e :: r, v :: vs, s, L, h => by
    simp only [decP] at h
    split at h
    · rename_i id ver
      split at h
      · rename_i ver' t xs hid
        cases hb : Nat.beq ver ver' with
        | false => simp only [hb, cond_false] at h; cases h
        | true =>
          simp only [hb, cond_true] at h
          split at h
          · rename_i ht
            subst ht
            split at h
            · rename_i y L' h2
              cases h
              obtain ⟨h3, h4⟩ := decP_things (ps := r) h2
              refine ⟨by simp only [List.length_cons, cntP, h3], fun k o hk => ?_⟩
              cases k with
              | zero => simp [thP] at hk; subst hk; exact ⟨id, _, rfl, hid, .inl ⟨ver', t, xs, rfl, rfl⟩⟩
              | succ k =>
                simp only [thP, List.getElem?_cons_succ] at hk
                simpa using h4 k o hk
            · cases h
          · cases h
      · cases h
    · cases h
  | .deep e :: r, [], s, L, h => by simp only [decP] at h; cases h
  | .deep e :: r, v :: vs, s, L, h => by
    simp only [decP] at h
    split at h
    · rename_i id ver
      split at h
      · rename_i ver' iv t xs hid
        cases hb : Nat.beq ver ver' with
        | false => simp only [hb, cond_false] at h; cases h
        | true =>
          simp only [hb, cond_true] at h
          split at h
          · rename_i ht
            subst ht
            split at h
            · rename_i y L' h2
              cases h
              obtain ⟨h3, h4⟩ := decP_things (ps := r) h2
              refine ⟨by simp only [List.length_cons, cntP, h3], fun k o hk => ?_⟩
              cases k with
              | zero => simp [thP] at hk; subst hk; exact ⟨id, _, rfl, hid, .inr ⟨ver', iv, t, xs, rfl, rfl⟩⟩
              | succ k =>
                simp only [thP, List.getElem?_cons_succ] at hk
                simpa using h4 k o hk
            · cases h
          · cases h
      · cases h
    · cases h

theorem decP_sound {H : Heap} {g gc : List G} {M : Mem} {w : World} (hr : HR H g M w) : ∀ {ps : List Po} {vs : List V} {s : PD ps} {L : List Nat} {n : Nat} {cs : List Value}, decP H ps vs = some (s, L) → VRs g M vs cs →
    (∀ k id, L[k]? = some id → gc[n + k]? = some (gAt g id)) → VRs gc M (encP ps s n) cs
  | [], [], s, L, n, cs, h, hv, hg => by cases hv; exact .nil
  | [], _ :: _, _, _, _, _, h, _, _ => by simp only [decP] at h; cases h
  | .imm t :: r, vs, s, L, n, cs, h, hv, hg => by
    simp only [decP] at h
    split at h
    · rename_i x vs' hd
      split at h
      · rename_i y L' h2
        cases h
        obtain ⟨d1, d2⟩ := dec_sound t hd hv
        have := (d1.imm (g' := gc) (immuts_enc t x)).append (decP_sound hr (ps := r) h2 d2 hg)
        rwa [List.take_append_drop] at this
      · cases h
    · cases h
  | .own e :: r, [], s, L, _, _, h, _, _ => by simp only [decP] at h; cases h
  | .own e :: r, v :: vs, s, L, n, cs, h, hv, hg => by
    simp only [decP] at h
    split at h
    · rename_i id ver
      split at h
      · rename_i ver' t xs hid
        cases hb : Nat.beq ver ver' with
        | false => simp only [hb, cond_false] at h; cases h
        | true =>
          simp only [hb, cond_true] at h
          split at h
          · rename_i ht
            subst ht
            split at h
            · rename_i y L' h2
              cases h
              cases hv with
              | cons a b =>
                refine .cons ?_ (decP_sound hr (ps := r) (n := n + 1) h2 b fun k id' hk => ?_)
                · cases a with
                  | obj _ _ ver2 sz hh _ q1 q2 q3 q4 =>
                    have ho := hr.ob id _ _ hid q1
                    simp only [ObOk] at ho
                    have h0 := hg 0 id rfl
                    simp only [gAt, q1, G.again, Nat.add_zero] at h0
                    exact .obj n 0 0 sz hh _ h0 (Nat.le_refl _) (fun _ => q3 (by rw [ho.1]; exact beq_true hb)) q4
                · have := hg (k + 1) id' (by simpa using hk)
                  rw [show n + (k + 1) = n + 1 + k by omega] at this
                  exact this
            · cases h
          · cases h
      · cases h
    · cases h
  | .deep e :: r, [], s, L, _, _, h, _, _ => by simp only [decP] at h; cases h
  | .deep e :: r, v :: vs, s, L, n, cs, h, hv, hg => by
    simp only [decP] at h
    split at h
    · rename_i id ver
      split at h
      · rename_i ver' iv t xs hid
        cases hb : Nat.beq ver ver' with
        | false => simp only [hb, cond_false] at h; cases h
        | true =>
          simp only [hb, cond_true] at h
          split at h
          · rename_i ht
            subst ht
            split at h
            · rename_i y L' h2
              cases h
              cases hv with
              | cons a b =>
                refine .cons ?_ (decP_sound hr (ps := r) (n := n + 1) h2 b fun k id' hk => ?_)
                · cases a with
                  | dob _ _ ver2 iv2 sz bs ih hh _ q1 q2 q3 q4 =>
                    have ho := hr.ob id _ _ hid q1
                    simp only [ObOk] at ho
                    have h0 := hg 0 id rfl
                    simp only [gAt, q1, G.again, Nat.add_zero] at h0
                    exact .dob n 0 0 0 sz bs ih hh _ h0 (Nat.le_refl _) (fun _ => q3 (by rw [ho.1.1]; exact beq_true hb)) q4
                · have := hg (k + 1) id' (by simpa using hk)
                  rw [show n + (k + 1) = n + 1 + k by omega] at this
                  exact this
            · cases h
          · cases h
      · cases h
    · cases h

theorem ownB_sl (v v' a a' sz sz' : Nat) (e e' : Ty) (xs : List e.den) (xs' : List e'.den) (h : Value) (b : Nat) : ownB (.sl v e xs) (.sl h a sz) b ↔ ownB (.sl v' e' xs') (.sl h a' sz') b := by
  cases h <;> try exact Iff.rfl
  rename_i ad _ _
  cases ad <;> exact Iff.rfl
theorem putL_len (H : Heap) : ∀ (L : List Nat) (r : Heap), (putL H L r).length = H.length
  | [], _ => rfl
  | _ :: _, [] => rfl
  | id :: L, o :: r => by simp only [putL, List.length_set, putL_len H L r]
theorem putL_get {H : Heap} : ∀ {L : List Nat} {r : Heap} {j : Nat} {o : Ob}, (putL H L r)[j]? = some o → (j ∉ L ∧ H[j]? = some o) ∨ (∃ (k : Nat) (o' : Ob), L[k]? = some j ∧ r[k]? = some o' ∧ o = reV (verAt H j) (ivAt H j) o') ∨ (r.length < L.length)
  | [], _, j, o, h => .inl ⟨by simp, h⟩
  | _ :: _, [], j, o, h => .inr (.inr (by simp))
  | id :: L, o' :: r, j, o, h => by
    simp only [putL] at h
    by_cases e : id = j
    · subst e
      have hl : id < (putL H L r).length := by
        rcases Nat.lt_or_ge id (putL H L r).length with k | k
        · exact k
        · rw [List.getElem?_eq_none (by simpa using k)] at h; cases h
      rw [List.getElem?_set_self hl] at h
      cases h
      exact .inr (.inl ⟨0, o', rfl, rfl, rfl⟩)
    · rw [List.getElem?_set_ne e] at h
      rcases putL_get h with ⟨h1, h2⟩ | ⟨k, o2, h1, h2, h3⟩ | h1
      · exact .inl ⟨fun hm => (List.mem_cons.1 hm).elim (fun k => e k.symm) h1, h2⟩
      · exact .inr (.inl ⟨k + 1, o2, by simpa using h1, by simpa using h2, h3⟩)
      · exact .inr (.inr (by simpa using h1))

/-- The things that a call acts on, with their owners. -/
theorem inPlace {H H1 H' Hc : Heap} {g g1 gc : List G} {M M1 : Mem} {w w' : World} {L : Nat → Prop} (hr : HR H g M w) (q2 : HR H1 g1 M1 w') (q4 : Base w M (Z.of Hc gc) H1 g1 M1 w') (hlen : H'.length = H.length)
    (hc : ∀ b, Own Hc gc b → ∃ (id : Nat) (o : Ob) (x : G), L id ∧ H[id]? = some o ∧ g[id]? = some x ∧ ownB o x b)
    (hs : ∀ (id : Nat) (o' : Ob) (x : G), H'[id]? = some o' → g[id]? = some x → (¬ L id ∧ H[id]? = some o') ∨ (∃ o, L id ∧ H[id]? = some o ∧ (∀ b, ownB o' x b → ownB o x b) ∧ ObOk g M1 w' o' x)) :
    HR H' g M1 w' ∧ Ext g M g M1 ∧ Base w M (Z.of H g) H' g M1 w' := by
  refine glue (L := L) hr q2.mem q4.mle ?_ (fun b hb hn => q4.keep b hb fun ho => hn (hc b ho)) q4.size q4.os q4.tape q4.output (by rw [hlen, hr.len]) (fun _ _ h => h) ?_
  · intro b cs hb
    rcases q4.mnew b cs hb with k | k | k
    · exact .inl k
    · exact .inr (.inl (hc b k))
    · exact .inr (.inr k)
  · intro id o' x h1 h2
    rcases hs id o' x h1 h2 with ⟨k1, k2⟩ | ⟨o, k1, k2, k3, k4⟩
    · exact .inl ⟨k1, k2, h2⟩
    · refine .inr ⟨k4, fun b hb => .inl ⟨id, o, x, k1, k2, h2, k3 b hb⟩, fun id' o2 x' b p1 p2 p3 p4 => .inl ?_⟩
      rcases hs id' o2 x' p1 p2 with ⟨m1, m2⟩ | ⟨o3, m1, m2, m3, m4⟩
      · exact hr.apart id id' o o2 x x' b k2 h2 m2 p2 (k3 b p3) p4
      · exact hr.apart id id' o o3 x x' b k2 h2 m2 p2 (k3 b p3) (m3 b p4)

/-- A function that writes its caller's slices in place. -/
def semM (ag : Bool) (ps : List Po) (l : List AT) (gd : PD ps → ADen l → Bool) (f : PD ps → ADen l → V × PD ps) : Sm := fun args H K =>
  match args with
  | v :: r =>
    match cellsM ag v with
    | some vs =>
      match decP H ps vs with
      | some (s, L) =>
        match decAs l r with
        | some x => bif nodupB L && immut (f s x).1 then cond (gd s x) (K (f s x).1 (putL H L (thP ps (f s x).2))) False else False
        | none => False
      | none => False
    | none => False
  | [] => False

theorem sub_hr {H : Heap} {g : List G} {M : Mem} {w : World} (hr : HR H g M w) {L : List Nat} (hnd : L.Nodup) {Hc : Heap} (hl : Hc.length = L.length)
    (hth : ∀ (k : Nat) (o : Ob), Hc[k]? = some o → ∃ (id : Nat) (o0 : Ob), L[k]? = some id ∧ H[id]? = some o0 ∧ Zed o0 o) :
    (∀ (k : Nat) (o : Ob) (x : G), Hc[k]? = some o → (gNorm L g)[k]? = some x → ObOk (gNorm L g) M w o x ∧ x.fixed = true ∧ ∃ (id : Nat) (o0 : Ob) (x0 : G), L[k]? = some id ∧ H[id]? = some o0 ∧ g[id]? = some x0 ∧ x = x0.again ∧ Zed o0 o ∧ ∀ b, ownB o x b → ownB o0 x0 b) := by
  intro k o x h1 h2
  obtain ⟨id, o0, p1, p2, hz⟩ := hth k o h1
  simp only [gNorm, List.getElem?_map, p1, Option.map_some, Option.some.injEq] at h2
  have hid : id < g.length := by rw [← hr.len]; exact lt_of_get p2
  have hg : g[id]? = some g[id] := List.getElem?_eq_getElem hid
  simp only [gAt, hg] at h2
  subst h2
  have ho := hr.ob id _ _ p2 hg
  generalize g[id] = y at *
  rcases hz with ⟨ver, e, xs, rfl, rfl⟩ | ⟨ver, iv, e, xs, rfl, rfl⟩
  · cases y <;> simp only [ObOk] at ho
    rename_i hh ver' sz
    refine ⟨?_, rfl, id, _, _, p1, p2, hg, rfl, .inl ⟨ver, e, xs, rfl, rfl⟩, ?_⟩
    · simp only [G.again, ObOk]
      refine ⟨trivial, ho.2.1, ho.2.2.1, ho.2.2.2.imp (fun e => e) ?_⟩
      rintro ⟨b, cap, c, T, fz, rfl, k2, k3, k4, k5, k6, k7⟩
      exact ⟨b, cap, c, T, fz, rfl, k2, k3, k4, fun i x hx => (k5 i x hx).imm (immuts_enc _ x), k6, k7⟩
    · intro b hb
      exact (ownB_sl ..).mp hb
  · cases y <;> simp only [ObOk] at ho
    refine ⟨?_, rfl, id, _, _, p1, p2, hg, rfl, .inr ⟨ver, iv, e, xs, rfl, rfl⟩, fun b hb => hb⟩
    simp only [G.again, ObOk]
    exact ⟨⟨trivial, trivial, ho.1.2.2⟩, ho.2⟩

theorem ver_ok {H : Heap} {g : List G} {M : Mem} {w : World} {id : Nat} {o0 o : Ob} {y : G} (h1 : H[id]? = some o0) (hz : Zed o0 o) (ho : ObOk g M w o0 y) :
    (∀ h v sz, y = .sl h v sz → v = verAt H id) ∧ (∀ h v iv sz bs ih, y = .dp h v iv sz bs ih → v = verAt H id ∧ iv = ivAt H id) := by
  rcases hz with ⟨ver, e, xs, rfl, rfl⟩ | ⟨ver, iv, e, xs, rfl, rfl⟩
  · refine ⟨fun h v sz e => ?_, fun h v iv sz bs ih e => ?_⟩
    · subst e; simp only [ObOk] at ho; simp only [verAt, h1]; exact ho.1
    · subst e; simp only [ObOk] at ho
  · refine ⟨fun h v sz e => ?_, fun h v iv sz bs ih e => ?_⟩
    · subst e; simp only [ObOk] at ho
    · subst e; simp only [ObOk] at ho; simp only [verAt, ivAt, h1]; exact ⟨ho.1.1, ho.1.2.1⟩

theorem sub_back {g g1 : List G} {M1 : Mem} {w' : World} {o' : Ob} {y : G} (ho : Given (fun _ => true) o') {vy ivy : Nat} (hy : ∀ h v sz, y = .sl h v sz → v = vy) (hy2 : ∀ h v iv sz bs ih, y = .dp h v iv sz bs ih → v = vy ∧ iv = ivy) (h : ObOk g1 M1 w' o' y.again) :
    ObOk g M1 w' (reV vy ivy o') y ∧ ∀ b, ownB (reV vy ivy o') y b → ownB o' y.again b := by
  obtain ⟨e, xs, ⟨rfl, _⟩ | rfl⟩ := ho
  · cases y <;> simp only [G.again, ObOk] at h
    rename_i hh v sz
    have := hy hh v sz rfl
    subst this
    simp only [reV, ObOk]
    refine ⟨⟨trivial, h.2.1, h.2.2.1, h.2.2.2.imp (fun e => e) ?_⟩, fun b hb => (ownB_sl ..).mp hb⟩
    rintro ⟨b, cap, c, T, fz, rfl, k2, k3, k4, k5, k6, k7⟩
    exact ⟨b, cap, c, T, fz, rfl, k2, k3, k4, fun i x hx => (k5 i x hx).imm (immuts_enc _ x), k6, k7⟩
  · cases y <;> simp only [G.again, ObOk] at h
    rename_i hh v iv sz bs ih
    obtain ⟨rfl, rfl⟩ := hy2 hh v iv sz bs ih rfl
    simp only [reV, ObOk]
    exact ⟨⟨⟨trivial, trivial, h.1.2.2⟩, h.2⟩, fun b hb => hb⟩
/-- What a thing owns is told by its number alone. -/
theorem own_same {g g1 : List G} {M M1 : Mem} {w w1 : World} {o o2 : Ob} {y : G} (h1 : Given (fun _ => true) o) (h2 : Given (fun _ => true) o2) (hy : ObOk g M w o y) {b : Nat} (h : ownB o2 y b) : ownB o y b := by
  obtain ⟨e, xs, ⟨rfl, _⟩ | rfl⟩ := h1
  · cases y <;> simp only [ObOk] at hy
    obtain ⟨e2, xs2, ⟨rfl, _⟩ | rfl⟩ := h2
    · exact (ownB_sl ..).mp h
    · exact h.elim
  · cases y <;> simp only [ObOk] at hy
    obtain ⟨e2, xs2, ⟨rfl, _⟩ | rfl⟩ := h2
    · exact h.elim
    · exact h

theorem allP_true : ∀ ps, allP (fun _ => true) ps = true
  | [] => rfl
  | .imm _ :: r => by simp only [allP, allP_true r]; rfl
  | .own _ :: r => by simp only [allP, allP_true r]; rfl
  | .deep _ :: r => by simp only [allP, allP_true r]

theorem fnOkO_mark0 {P : Program} {k : FuncId} {S : Sm} (hS : FnOkO P k S) {ag : Bool} {ps : List Po} {l : List AT} {gd : PD ps → ADen l → Bool} {f : PD ps → ADen l → V × PD ps} (hag : ag = true ∨ (∃ e, ps = [.own e]) ∨ ∃ e, ps = [.deep e])
    (h : ∀ (s : PD ps) (x : ADen l), WfAs l x → gd s x = true → ∀ (K : V → Heap → Prop), K (f s x).1 (thP ps (f s x).2) → S (ofCells ag (encP ps s 0) :: encAs l x) (thP ps s) K) : FnOkO P k (semM ag ps l gd f) := by
  intro args H K hk
  simp only [semM] at hk
  split at hk
  · rename_i v r
    split at hk
    · rename_i vs hvs
      split at hk
      · rename_i s L hd
        split at hk
        · rename_i x hx
          cases hi : (nodupB L && immut (f s x).1) with
          | false => simp only [hi, cond_false] at hk
          | true =>
            simp only [hi, cond_true] at hk
            cases hgd : gd s x with
            | false => simp only [hgd, cond_false] at hk
            | true =>
            simp only [hgd, cond_true] at hk
            refine ⟨_, _, hk, fun K' h' => by simp only [semM, hvs, hd, hx, hi, hgd, cond_true]; exact h', ?_⟩
            simp only [Bool.and_eq_true] at hi
            have hnd := nodupB_ok hi.1
            intro w g M cargs hv hr hG
            cases hv with
            | cons hp hrest =>
            have hwx : WfAs l x := wfAs_of hx hrest
            obtain ⟨hLl, hth⟩ := decP_things hd
            have hgc : ∀ k id, L[k]? = some id → (gNorm L g)[0 + k]? = some (gAt g id) := by
              intro k id hk
              simp [gNorm, hk]
            have hsub := sub_hr hr hnd (Hc := thP ps s) (by rw [thP_len, hLl]) hth
            have hr1 : HR (thP ps s) (gNorm L g) M w := by
              refine ⟨by simp [gNorm, thP_len, hLl], fun k o x h1 h2 => (hsub k o x h1 h2).1, ?_, hr.mem⟩
              intro k k' o o' x x' b h1 h2 h3 h4 h5 h6
              obtain ⟨_, _, id, o0, x0, p1, p2, p3, _, _, p5⟩ := hsub k o x h1 h2
              obtain ⟨_, _, id', o0', x0', q1, q2, q3, _, _, q5⟩ := hsub k' o' x' h3 h4
              have := hr.apart id id' o0 o0' x0 x0' b p2 p3 q2 q3 (p5 b h5) (q5 b h6)
              subst this
              exact nodup_pos hnd p1 q1
            have hva : ∀ c, VR g M v c → VR (gNorm L g) M (ofCells ag (encP ps s 0)) c := by
              intro c hc
              cases ag with
              | true =>
                simp only [cellsM, cond_true] at hvs
                split at hvs
                · rename_i us
                  cases hvs
                  cases hc with
                  | agg _ cs hcs => exact .agg _ cs (decP_sound hr hd hcs hgc)
                · cases hvs
              | false =>
                rcases hag with k | ⟨e, rfl⟩ | ⟨e, rfl⟩
                · cases k
                · simp only [cellsM, cond_false] at hvs
                  cases hvs
                  have := decP_sound hr hd (cs := [c]) (.cons hc .nil) hgc
                  simp only [encP] at this ⊢
                  cases this with
                  | cons a _ => exact a
                · simp only [cellsM, cond_false] at hvs
                  cases hvs
                  have := decP_sound hr hd (cs := [c]) (.cons hc .nil) hgc
                  simp only [encP] at this ⊢
                  cases this with
                  | cons a _ => exact a
            generalize hs' : (f s x).2 = s' at *
            obtain ⟨v1, H1, h1, h2, h3⟩ := hS (ofCells ag (encP ps s 0) :: encAs l x) (thP ps s) (fun v hs => v = (f s x).1 ∧ hs = thP ps s') (h s x hwx hgd _ ⟨rfl, by rw [hs']⟩)
            obtain ⟨rfl, rfl⟩ := h1
            refine (h3 w (gNorm L g) M _ (.cons (hva _ hp) ((decAs_sound hx hrest).imm (immuts_encAs l x))) hr1 hG).mono ?_
            rintro val w' ⟨g1, M1, q1, q2, q3, q4⟩
            have hgs : ∀ (k : Nat) (y : G), (gNorm L g)[k]? = some y → g1[k]? = some y := by
              intro k y hy
              refine q4.gbox k y ⟨hy, ?_⟩
              have hl : k < (thP ps s).length := by rw [hr1.len]; exact lt_of_get hy
              exact (hsub k _ y (List.getElem?_eq_getElem hl) hy).2.1
            obtain ⟨r1, r2, r3⟩ := inPlace (L := fun i => i ∈ L) (H' := putL H L (thP ps s')) hr q2 q4 (putL_len H L _) (by
                rintro b ⟨k, o, x, p1, p2, p3⟩
                obtain ⟨_, _, id, o0, x0, m1, m2, m3, _, _, m5⟩ := hsub k o x p1 p2
                exact ⟨id, o0, x0, List.mem_of_getElem? m1, m2, m3, m5 b p3⟩) (by
                intro id o' x p1 p2
                rcases putL_get p1 with ⟨m1, m2⟩ | ⟨k, o2, m1, m2, rfl⟩ | m1
                · exact .inl ⟨m1, m2⟩
                · refine .inr ?_
                  have hgk := hgc k id m1
                  rw [Nat.zero_add] at hgk
                  have hl : k < (thP ps s).length := by rw [hr1.len]; exact lt_of_get hgk
                  obtain ⟨hob, _, id', o0, x0, n1, n2, n3, n4, nz, n5⟩ := hsub k _ _ (List.getElem?_eq_getElem hl) hgk
                  rw [m1] at n1; cases n1
                  rw [p2] at n3; cases n3
                  have ho := hr.ob id _ _ n2 p2
                  obtain ⟨v1, v2⟩ := ver_ok n2 nz ho
                  have hgiven := thP_given ps s' (allP_true ps) o2 (List.mem_of_getElem? m2)
                  have hb := sub_back (g := g) (vy := verAt H id) (ivy := ivAt H id) hgiven (y := x) v1 v2 (by
                    rw [← n4]; exact q2.ob k o2 _ m2 (hgs k _ hgk))
                  refine ⟨_, List.mem_of_getElem? m1, n2, fun b hb' => n5 b ?_, hb.1⟩
                  have := hb.2 b hb'
                  rw [← n4] at this
                  exact own_same (g1 := g) (M1 := M) (w1 := w) nz.given hgiven hob this
                · rw [thP_len, hLl] at m1; omega)
            exact ⟨g, M1, q1.imm hi.2, r1, r2, r3⟩
        · exact hk.elim
      · exact hk.elim
    · exact hk.elim
  · exact hk.elim
theorem putL_boxes (H : Heap) (id : Nat) : ∀ (L : List Nat) (r : Heap), (∀ i ∈ L, ∃ (o0 o : Ob), H[i]? = some o0 ∧ Zed o0 o) → BoxesStay id H (putL H L r)
  | [], _, _ => .refl _ _
  | _ :: _, [], _ => .refl _ _
  | i :: L, o :: r, h => by
    simp only [putL]
    intro j hj cells hc
    obtain ⟨o0, o1, hi, hz⟩ := h i (by simp)
    have hne : i ≠ j := fun e' => by subst e'; rw [hi] at hc; cases hc; exact hz.noBox _ rfl
    rw [List.getElem?_set_ne hne]
    exact putL_boxes H id L r (fun i' hi' => h i' (by simp [hi'])) j hj cells hc
theorem decP_sl {H : Heap} {ps : List Po} {vs : List V} {s : PD ps} {L : List Nat} (h : decP H ps vs = some (s, L)) : ∀ i ∈ L, ∃ (o0 o : Ob), H[i]? = some o0 ∧ Zed o0 o := by
  intro i hi
  obtain ⟨h1, h2⟩ := decP_things h
  obtain ⟨k, hk⟩ := List.mem_iff_getElem?.1 hi
  have hl : k < (thP ps s).length := by rw [thP_len, ← h1]; exact lt_of_get hk
  obtain ⟨id, o0, p1, p2, hz⟩ := h2 k _ (List.getElem?_eq_getElem hl)
  rw [hk] at p1; cases p1
  exact ⟨o0, _, p2, hz⟩
theorem semM_local (ag : Bool) (ps : List Po) (l : List AT) (gd : PD ps → ADen l → Bool) (f : PD ps → ADen l → V × PD ps) : LocalS (semM ag ps l gd f) := by
  intro v r H K h
  simp only [semM] at h ⊢
  split at h
  · rename_i vs hvs
    split at h
    · rename_i s L hd
      split at h
      · rename_i x hx
        cases hi : (nodupB L && immut (f s x).1) with
        | false => simp only [hi, cond_false] at h
        | true =>
          cases hg : gd s x with
          | false => simp only [hi, hg, cond_true, cond_false] at h
          | true =>
            simp only [hi, hg, cond_true] at h
            simp only [hd, hx, hi, hg, cond_true]
            exact ⟨h, .of fun id => putL_boxes H id L _ (decP_sl hd)⟩
      · exact h.elim
    · exact h.elim
  · exact h.elim
theorem fnOkO_mark {P : Program} {k : FuncId} {S : Sm} (hS : FnOkO P k S) {ag : Bool} {ps : List Po} {l : List AT} {gd : PD ps → ADen l → Bool} {f : PD ps → ADen l → V × PD ps} (hag : ag = true ∨ (∃ e, ps = [.own e]) ∨ ∃ e, ps = [.deep e])
    (h : ∀ (s : PD ps) (x : ADen l), WfAs l x → gd s x = true → ∀ (K : V → Heap → Prop), K (f s x).1 (thP ps (f s x).2) → S (ofCells ag (encP ps s 0) :: encAs l x) (thP ps s) K) : FnOkL P k (semM ag ps l gd f) := ⟨fnOkO_mark0 hS hag h, semM_local _ _ _ _ _⟩

theorem encI_sound {H : Heap} {g g1 : List G} {M1 : Mem} {n : Nat} : ∀ {ps : List Po} {x : PD ps} {L : List Nat} {cs : List Value} {k : Nat}, L.length = cntP ps →
    (∀ (j id : Nat), L[j]? = some id → ∃ y : G, g1[k + j]? = some y.again ∧ g[id]? = some y ∧ (∀ h v sz, y = .sl h v sz → v = verAt H id) ∧ (∀ h v iv sz bs ih, y = .dp h v iv sz bs ih → v = verAt H id ∧ iv = ivAt H id)) → VRs g1 M1 (encP ps x k) cs → VRs g M1 (encI H ps x L) cs
  | [], _, _, _, _, _, _, h => by cases h; exact .nil
  | .imm t :: r, x, L, cs, k, hl, hg, h => by
    simp only [encP, encI] at h ⊢
    obtain ⟨h1, h2⟩ := h.split
    have := (h1.imm (g' := g) (immuts_enc t x.1)).append (encI_sound (n := n) (ps := r) (L := L) hl hg h2)
    rwa [List.take_append_drop] at this
  | .own e :: r, x, [], cs, k, hl, hg, h => by simp [cntP] at hl
  | .own e :: r, x, id :: L, cs, k, hl, hg, h => by
    simp only [encP, encI] at h ⊢
    cases h with
    | cons a b =>
      refine .cons ?_ (encI_sound (n := n) (ps := r) (k := k + 1) (by simpa [cntP] using hl) (fun j id' hj => ?_) b)
      · obtain ⟨y, e1, e2, e3, e4⟩ := hg 0 id rfl
        cases a with
        | obj _ _ ver' sz hh _ q1 q2 q3 q4 =>
          rw [Nat.add_zero, q1] at e1
          cases y <;> simp only [G.again] at e1 <;> cases e1
          rename_i v
          rw [← e3 _ _ _ rfl]
          exact .obj id _ _ _ _ _ e2 (Nat.le_refl _) (fun _ => q3 rfl) q4
      · have := hg (j + 1) id' (by simpa using hj)
        rw [show k + (j + 1) = k + 1 + j by omega] at this
        exact this
  | .deep e :: r, x, [], cs, k, hl, hg, h => by simp [cntP] at hl
  | .deep e :: r, x, id :: L, cs, k, hl, hg, h => by
    simp only [encP, encI] at h ⊢
    cases h with
    | cons a b =>
      refine .cons ?_ (encI_sound (n := n) (ps := r) (k := k + 1) (by simpa [cntP] using hl) (fun j id' hj => ?_) b)
      · obtain ⟨y, e1, e2, e3, e4⟩ := hg 0 id rfl
        cases a with
        | dob _ _ ver' iv' sz bs ih hh _ q1 q2 q3 q4 =>
          rw [Nat.add_zero, q1] at e1
          cases y <;> simp only [G.again] at e1 <;> cases e1
          rename_i v iv
          obtain ⟨e5, e6⟩ := e4 _ _ _ _ _ _ rfl
          rw [← e5]
          exact .dob id _ _ _ _ _ _ _ _ e2 (Nat.le_refl _) (fun _ => q3 rfl) q4
      · have := hg (j + 1) id' (by simpa using hj)
        rw [show k + (j + 1) = k + 1 + j by omega] at this
        exact this

/-- A function that is given the address of a box with slices, and writes them in place. -/
def semW (ps : List Po) (l : List AT) (gd : PD ps → ADen l → Bool) (f : PD ps → ADen l → V × PD ps) : Sm := fun args H K =>
  match args with
  | .ptr id off :: r =>
    match H[id]? with
    | some (.box cells) =>
      match decP H ps cells with
      | some (s, L) =>
        match decAs l r with
        | some x => bif Nat.beq off 0 && (nodupB L && immut (f s x).1) then cond (gd s x) (K (f s x).1 ((putL H L (thP ps (f s x).2)).set id (.box (encI H ps (f s x).2 L)))) False else False
        | none => False
      | none => False
    | _ => False
  | _ => False

theorem fnOkO_in0 {P : Program} {k : FuncId} {S : Sm} (hS : FnOkO P k S) {ps : List Po} {l : List AT} {gd : PD ps → ADen l → Bool} {f : PD ps → ADen l → V × PD ps}
    (h : ∀ (s : PD ps) (x : ADen l), WfAs l x → gd s x = true → ∀ (K : V → Heap → Prop), K (f s x).1 (.box (encP ps (f s x).2 1) :: thP ps (f s x).2) → S (.ptr 0 0 :: encAs l x) (.box (encP ps s 1) :: thP ps s) K) : FnOkO P k (semW ps l gd f) := by
  intro args H K hk
  simp only [semW] at hk
  split at hk
  · rename_i id0 off r
    split at hk
    · rename_i cells hid0
      split at hk
      · rename_i s L hd
        split at hk
        · rename_i x hx
          cases hi : (Nat.beq off 0 && (nodupB L && immut (f s x).1)) with
          | false => simp only [hi, cond_false] at hk
          | true =>
            simp only [hi, cond_true] at hk
            cases hgd : gd s x with
            | false => simp only [hgd, cond_false] at hk
            | true =>
            simp only [hgd, cond_true] at hk
            refine ⟨_, _, hk, fun K' h' => by simp only [semW, hid0, hd, hx, hi, hgd, cond_true]; exact h', ?_⟩
            simp only [Bool.and_eq_true] at hi
            have hoff := beq_true hi.1
            subst hoff
            have hnd := nodupB_ok hi.2.1
            intro w g M cargs hv hr hG
            cases hv with
            | cons hp hrest =>
            cases hp with
            | ptr _ _ b hb =>
            have hwx : WfAs l x := wfAs_of hx hrest
            obtain ⟨hLl, hth⟩ := decP_things hd
            have hob0 := hr.ob id0 _ _ hid0 hb
            simp only [ObOk] at hob0
            obtain ⟨c, T, fz, k1, k2, k3, k4⟩ := hob0
            have hgc : ∀ k id, L[k]? = some id → (G.box b :: gNorm L g)[1 + k]? = some (gAt g id) := by
              intro k id hk
              rw [Nat.add_comm]
              simp [gNorm, hk]
            have hsub := sub_hr hr hnd (Hc := thP ps s) (by rw [thP_len, hLl]) hth
            have hidL : ∀ i ∈ L, i ≠ id0 := by
              intro i hi' e
              subst e
              obtain ⟨_, _, hsl, hz⟩ := decP_sl hd i hi'
              rw [hid0] at hsl; cases hsl
              exact hz.noBox _ rfl
            have shift : ∀ {o : Ob} {y : G}, Given (fun _ => true) o → ObOk (gNorm L g) M w o y → ObOk (G.box b :: gNorm L g) M w o y := fun ho hy =>
              ObOk.given (p := fun _ => true) (fun t _ x cs hx => hx.imm (immuts_enc t x)) (fun _ h => h) ho hy
            have hgiv := thP_given (p := fun _ => true) ps s (allP_true ps)
            have hr1 : HR (.box (encP ps s 1) :: thP ps s) (.box b :: gNorm L g) M w := by
              refine ⟨by simp [gNorm, thP_len, hLl], ?_, ?_, hr.mem⟩
              · intro k o x h1 h2
                cases k with
                | zero => cases h1; cases h2; exact ⟨c, T, fz, k1, decP_sound hr hd k2 hgc, k3, k4⟩
                | succ k =>
                  simp only [List.getElem?_cons_succ] at h1 h2
                  exact shift (hgiv o (List.mem_of_getElem? h1)) (hsub k o x h1 h2).1
              · intro k k' o o' x x' b' h1 h2 h3 h4 h5 h6
                cases k with
                | zero =>
                  cases h1; cases h2
                  simp only [ownB] at h5
                  subst h5
                  cases k' with
                  | zero => rfl
                  | succ k' =>
                    exfalso
                    simp only [List.getElem?_cons_succ] at h3 h4
                    obtain ⟨_, _, id', o0', x0', q1, q2, q3, _, _, q5⟩ := hsub k' o' x' h3 h4
                    exact hidL id' (List.mem_of_getElem? q1) (hr.apart id' id0 o0' _ x0' _ b q2 q3 hid0 hb (q5 b h6) rfl)
                | succ k =>
                  simp only [List.getElem?_cons_succ] at h1 h2
                  obtain ⟨_, _, id, o0, x0, p1, p2, p3, _, _, p5⟩ := hsub k o x h1 h2
                  cases k' with
                  | zero =>
                    exfalso
                    cases h3; cases h4
                    simp only [ownB] at h6
                    subst h6
                    exact hidL id (List.mem_of_getElem? p1) (hr.apart id id0 o0 _ x0 _ b p2 p3 hid0 hb (p5 b h5) rfl)
                  | succ k' =>
                    simp only [List.getElem?_cons_succ] at h3 h4
                    obtain ⟨_, _, id', o0', x0', q1, q2, q3, _, _, q5⟩ := hsub k' o' x' h3 h4
                    have := hr.apart id id' o0 o0' x0 x0' b' p2 p3 q2 q3 (p5 b' h5) (q5 b' h6)
                    subst this
                    rw [nodup_pos hnd p1 q1]
            generalize hs' : (f s x).2 = s' at *
            obtain ⟨v1, H1, h1, h2, h3⟩ := hS (.ptr 0 0 :: encAs l x) (.box (encP ps s 1) :: thP ps s) (fun v hs => v = (f s x).1 ∧ hs = .box (encP ps s' 1) :: thP ps s') (h s x hwx hgd _ ⟨rfl, by rw [hs']⟩)
            obtain ⟨rfl, rfl⟩ := h1
            refine (h3 w (.box b :: gNorm L g) M _ (.cons (.ptr 0 0 b rfl) ((decAs_sound hx hrest).imm (immuts_encAs l x))) hr1 hG).mono ?_
            rintro val w' ⟨g1, M1, q1, q2, q3, q4⟩
            have hg0 : g1[0]? = some (.box b) := q4.gbox 0 (.box b) ⟨rfl, rfl⟩
            have hsl : ∀ (k : Nat) (y : G), (gNorm L g)[k]? = some y → y.fixed = true := by
              intro k y hy
              have hl : k < (thP ps s).length := by
                have := lt_of_get hy
                simp only [gNorm, List.length_map] at this
                rw [thP_len]; omega
              exact (hsub k _ y (List.getElem?_eq_getElem hl) hy).2.1
            have hgs : ∀ (k : Nat) (y : G), (gNorm L g)[k]? = some y → g1[k + 1]? = some y := by
              intro k y hy
              exact q4.gbox (k + 1) y ⟨by simpa using hy, hsl k y hy⟩
            have hid0l : id0 < (putL H L (thP ps s')).length := by rw [putL_len]; exact lt_of_get hid0
            -- what is known of one of the slices
            have hone : ∀ k id, L[k]? = some id → ∃ (o0 o : Ob) (x : G), H[id]? = some o0 ∧ g[id]? = some x ∧ Zed o0 o ∧ ObOk (gNorm L g) M w o x.again ∧ (∀ b', ownB o x.again b' → ownB o0 x b') ∧ g1[k + 1]? = some x.again ∧ ObOk g M w o0 x := by
              intro k id m1
              have hgk : (gNorm L g)[k]? = some (gAt g id) := by simp [gNorm, m1]
              have hl : k < (thP ps s).length := by rw [thP_len, ← hLl]; exact lt_of_get m1
              obtain ⟨hob, _, id', o0, x0, n1, n2, n3, n4, nz, n5⟩ := hsub k _ _ (List.getElem?_eq_getElem hl) hgk
              rw [m1] at n1; cases n1
              rw [n4] at hob n5
              exact ⟨o0, _, x0, n2, n3, nz, hob, n5, by rw [← n4]; exact hgs k _ hgk, hr.ob id _ _ n2 n3⟩
            obtain ⟨r1, r2, r3⟩ := inPlace (L := fun i => i = id0 ∨ i ∈ L) (H' := (putL H L (thP ps s')).set id0 (.box (encI H ps s' L))) hr q2 q4 (by rw [List.length_set, putL_len]) (by
                rintro b' ⟨k, o, x, p1, p2, p3⟩
                cases k with
                | zero => cases p1; cases p2; simp only [ownB] at p3; subst p3; exact ⟨id0, _, _, .inl rfl, hid0, hb, rfl⟩
                | succ k =>
                  simp only [List.getElem?_cons_succ] at p1 p2
                  obtain ⟨_, _, id, o0, x0, m1, m2, m3, _, _, m5⟩ := hsub k o x p1 p2
                  exact ⟨id, o0, x0, .inr (List.mem_of_getElem? m1), m2, m3, m5 b' p3⟩) (by
                intro id o' x p1 p2
                by_cases e0 : id0 = id
                · subst e0
                  rw [List.getElem?_set_self hid0l] at p1
                  cases p1
                  rw [hb] at p2; cases p2
                  have hob1 := q2.ob 0 _ _ rfl hg0
                  simp only [ObOk] at hob1
                  obtain ⟨c', T', fz', m1, m2, m3, m4⟩ := hob1
                  refine .inr ⟨_, .inl rfl, hid0, fun b' hb' => hb', ⟨c', T', fz', m1, ?_, m3, m4⟩⟩
                  refine encI_sound (n := 0) hLl (fun j id hj => ?_) m2
                  obtain ⟨o0, o, x, n1, n2, nz, n3, n4, n5, n6⟩ := hone j id hj
                  obtain ⟨v1, v2⟩ := ver_ok n1 nz n6
                  exact ⟨x, by rw [Nat.add_comm]; exact n5, n2, v1, v2⟩
                · rw [List.getElem?_set_ne e0] at p1
                  rcases putL_get p1 with ⟨m1, m2⟩ | ⟨k, o2, m1, m2, rfl⟩ | m1
                  · exact .inl ⟨fun h => h.elim (fun e => e0 e.symm) m1, m2⟩
                  · refine .inr ?_
                    obtain ⟨o0, o, x', n1, n2, nz, n3, n4, n5, n6⟩ := hone k id m1
                    rw [p2] at n2; cases n2
                    obtain ⟨v1, v2⟩ := ver_ok n1 nz n6
                    have hgiven := thP_given ps s' (allP_true ps) o2 (List.mem_of_getElem? m2)
                    have hb2 := sub_back (g := g) (vy := verAt H id) (ivy := ivAt H id) hgiven (y := x) v1 v2 (q2.ob (k + 1) o2 _ (by simpa using m2) n5)
                    refine ⟨_, .inr (List.mem_of_getElem? m1), n1, fun b' hb' => n4 b' ?_, hb2.1⟩
                    exact own_same (g1 := g) (M1 := M) (w1 := w) nz.given hgiven n3 (hb2.2 b' hb')
                  · rw [thP_len, hLl] at m1; omega)
            exact ⟨g, M1, q1.imm hi.2.2, r1, r2, r3⟩
        · exact hk.elim
      · exact hk.elim
    · exact hk.elim
  · exact hk.elim
theorem semW_local (ps : List Po) (l : List AT) (gd : PD ps → ADen l → Bool) (f : PD ps → ADen l → V × PD ps) : LocalS (semW ps l gd f) := by
  intro v r H K h
  cases v <;> simp only [semW] at h ⊢
  rename_i id off
  split at h
  · rename_i cells hid
    split at h
    · rename_i s L hd
      split at h
      · rename_i x hx
        cases hi : (Nat.beq off 0 && (nodupB L && immut (f s x).1)) with
        | false => simp only [hi, cond_false] at h
        | true =>
          cases hg : gd s x with
          | false => simp only [hi, hg, cond_true, cond_false] at h
          | true =>
            simp only [hi, hg, cond_true] at h
            simp only [hid, hd, hx, hi, hg, cond_true]
            exact ⟨h, .ptr ((putL_boxes H id L _ (decP_sl hd)).trans (.set _ _ _))⟩
      · exact h.elim
    · exact h.elim
  · exact h.elim
theorem fnOkO_in {P : Program} {k : FuncId} {S : Sm} (hS : FnOkO P k S) {ps : List Po} {l : List AT} {gd : PD ps → ADen l → Bool} {f : PD ps → ADen l → V × PD ps}
    (h : ∀ (s : PD ps) (x : ADen l), WfAs l x → gd s x = true → ∀ (K : V → Heap → Prop), K (f s x).1 (.box (encP ps (f s x).2 1) :: thP ps (f s x).2) → S (.ptr 0 0 :: encAs l x) (.box (encP ps s 1) :: thP ps s) K) : FnOkL P k (semW ps l gd f) := ⟨fnOkO_in0 hS h, semW_local _ _ _ _⟩

theorem fnOkO_runG {P : Program} {C : Ctx} {ty : TypeId → Ty} {kv kf ko : List (FuncId × Sm)} {n : Nat} {ann : Nat → Option Ann} {base : Nat} {cut : Bool} {kd : List (FuncId × Sm)} {deep mv vw : Bool} {ke : List (FuncId × Sm)} (ps : List (List (Option Ty))) (hC : C = mkC P ty kv kf ko n ann base cut kd deep mv vw ke) (hm : P.follows .mixedOrders = true)
    (h1 : Known P kv) (h2 : Known P kf) (h3 : KnownO P ko) {k : FuncId} {fn : Func} (hf : P.funcs[k]? = some fn) (hn : (fn.name == "runtime.NumGoroutine") = false) (h4 : Known P kd := by exact .nil) (h5 : KnownE P ke := by exact .nil) : FnOkO P k (wpFnG ps C fn) := by
  subst hC
  exact fnOkO_of_wpFnG (lok_tiOf P ty _ rfl) (mkC_calls h1 h2 h3 h4 h5) hm ps hf hn

/-! ### slices.Clone: it asks for nil, what the evaluator's lists do not tell -/
def sCl (t : Ty) (m : Nat) : Sm := fun args H K => match args, H with
  | [.vec t' xs], [] => if h : t' = t then cond (decide (xs.length ≤ m)) (K (.obj 0 0) [.sl 0 t (h ▸ xs)]) False else False
  | _, _ => False
theorem fnOkO_clone {P : Program} {k : FuncId} {S : Sm} (hS : FnOkO P k S) {t : Ty} (m : Nat) (h1 : ∀ (x : t.den) (xs : List t.den) (K : V → Heap → Prop), xs.length + 1 ≤ m → K (.obj 0 0) [.sl 0 t (x :: xs)] → S [.vec t (x :: xs)] [] K)
    (h2 : ∀ (b : Bool) (K : V → Heap → Prop), K (.obj 0 0) [.sl 0 t []] → S [.empty b false] [] K) : FnOkL P k (semV [.cell (.slice t)] [.cell (.own t)] (fun x => decide (x.1.length ≤ m)) fun x => (x.1, ())) := by
  refine fnOkO_give (S := sCl t m) ?_ rfl ?_
  · intro args H K hk
    unfold sCl at hk
    split at hk
    · rename_i t' xs
      split at hk
      · rename_i e
        subst e
        cases hm : decide (xs.length ≤ m) with
        | false => simp only [hm, cond_false] at hk
        | true =>
        simp only [hm, cond_true] at hk
        refine ⟨_, _, hk, fun K' h' => by simp only [sCl, dif_pos, hm, cond_true]; exact h', ?_⟩
        intro w g M cargs hv hr hG
        cases hv with
        | cons a b =>
        cases b
        rename_i c
        cases xs with
        | nil =>
          have he : ∃ b, VR g M (.empty b false) c := by
            cases a with
            | vecnil _ ad cap => exact ⟨_, .empty _ _ ad cap rfl (fun e => by cases e)⟩
            | vec _ _ b off n cap cs m1 m2 m3 m4 =>
              have : n = 0 := m2.1
              subst this
              exact ⟨_, .empty _ _ _ cap rfl (fun e => by cases e)⟩
          obtain ⟨b, he⟩ := he
          obtain ⟨v, H1, q1, q2, q3⟩ := hS [.empty b false] [] (fun v hs => v = .obj 0 0 ∧ hs = [.sl 0 t' []]) (h2 b _ ⟨rfl, rfl⟩)
          obtain ⟨rfl, rfl⟩ := q1
          exact q3 w g M _ (.cons he .nil) hr hG
        | cons x xs =>
          obtain ⟨v, H1, q1, q2, q3⟩ := hS [.vec t' (x :: xs)] [] (fun v hs => v = .obj 0 0 ∧ hs = [.sl 0 t' (x :: xs)]) (h1 x xs _ (by have := of_decide_eq_true hm; simpa using this) ⟨rfl, rfl⟩)
          obtain ⟨rfl, rfl⟩ := q1
          exact q3 w g M _ (.cons a .nil) hr hG
      · exact hk.elim
    · exact hk.elim
  · intro x _ hg K hK
    obtain ⟨xs, _⟩ := x
    show sCl t m [.vec t xs] [] K
    simp only [sCl, dif_pos]
    rw [show decide (xs.length ≤ m) = true from hg]
    exact hK

/-! ### what is handed over may be looked at alone -/
def vecP : (ps : List Po) → PD ps → List V
  | [], _ => []
  | .imm t :: r, x => enc t x.1 ++ vecP r x.2
  | .own e :: r, x => .vec e x.1 :: vecP r x.2
  | .deep e :: r, x => .vec e x.1 :: vecP r x.2
def vecR : (r : RT) → r.den → V
  | .cell (.imm t), x => (enc t x).headD .undef
  | .cell (.own e), x => .vec e x
  | .cell (.deep e), x => .vec e x
  | .agg ps, x => .agg (vecP ps x)
def vecRs : (rs : List RT) → RD rs → List V
  | [], _ => []
  | r :: rs, x => vecR r x.1 :: vecRs rs x.2

section
variable {g : List G} {M : Mem} {w : World} {H : Heap}
theorem obj_vec (hr : HR H g M w) {n : Nat} {e : Ty} {xs : List e.den} (hn : H[n]? = some (.sl 0 e xs)) {c : Value} (hv : VR g M (.obj n 0) c) : VR [] (memAll H g M w) (.vec e xs) c := by
  cases hv with
  | obj _ _ ver' sz h _ h1 h2 h3 h4 =>
    have ho := hr.ob n _ _ hn h1
    simp only [ObOk] at ho
    rw [h3 ho.1.symm]
    exact vec_of_sl hr hn h1
theorem dob_vec (hr : HR H g M w) {n : Nat} {e : Ty} {xs : List e.den} (hn : H[n]? = some (.dp 0 0 e xs)) {c : Value} (hv : VR g M (.dob n 0) c) : VR [] (memAll H g M w) (.vec e xs) c := by
  cases hv with
  | dob _ _ ver' iv sz bs ih h _ h1 h2 h3 h4 =>
    have ho := hr.ob n _ _ hn h1
    simp only [ObOk] at ho
    rw [h3 ho.1.1.symm]
    exact vec_of_dp hr hn h1
theorem encP_vec (hr : HR H g M w) : ∀ (ps : List Po) (x : PD ps) (n : Nat) {cs : List Value}, (∀ (j : Nat) (o : Ob), (thP ps x)[j]? = some o → H[n + j]? = some o) → VRs g M (encP ps x n) cs → VRs [] (memAll H g M w) (vecP ps x) cs
  | [], _, _, _, _, h => by cases h; exact .nil
  | .imm t :: r, x, n, cs, hth, h => by
    simp only [encP, vecP] at h ⊢
    obtain ⟨h1, h2⟩ := h.split
    have := ((h1.mono (Ext.mem (memAll_le H g M w))).imm (g' := []) (immuts_enc t x.1)).append (encP_vec hr r x.2 n hth h2)
    rwa [List.take_append_drop] at this
  | .own e :: r, x, n, cs, hth, h => by
    simp only [encP, vecP] at h ⊢
    cases h with
    | cons a b =>
      exact .cons (obj_vec hr (hth 0 _ rfl) a) (encP_vec hr r x.2 (n + 1) (fun j o hj => by
        have := hth (j + 1) o (by simpa [thP] using hj)
        rwa [show n + (j + 1) = n + 1 + j by omega] at this) b)
  | .deep e :: r, x, n, cs, hth, h => by
    simp only [encP, vecP] at h ⊢
    cases h with
    | cons a b =>
      exact .cons (dob_vec hr (hth 0 _ rfl) a) (encP_vec hr r x.2 (n + 1) (fun j o hj => by
        have := hth (j + 1) o (by simpa [thP] using hj)
        rwa [show n + (j + 1) = n + 1 + j by omega] at this) b)
theorem valRs_vec (hr : HR H g M w) : ∀ (rs : List RT) (x : RD rs) (n : Nat) {cs : List Value}, (∀ (j : Nat) (o : Ob), (thRs rs x)[j]? = some o → H[n + j]? = some o) → VRs g M (valRs rs x n) cs → VRs [] (memAll H g M w) (vecRs rs x) cs
  | [], _, _, _, _, h => by cases h; exact .nil
  | r :: rs, x, n, cs, hth, h => by
    simp only [valRs, vecRs] at h ⊢
    cases h with
    | cons a b =>
      have hrest := valRs_vec hr rs x.2 (n + cntR r) (fun j o hj => by
        have := hth (cntR r + j) o (by
          simp only [thRs]
          rw [List.getElem?_append_right (by rw [thR_len]; omega), thR_len, Nat.add_sub_cancel_left]; exact hj)
        rwa [← Nat.add_assoc] at this) b
      refine .cons ?_ hrest
      have hfst : ∀ (j : Nat) (o : Ob), (thR r x.1)[j]? = some o → H[n + j]? = some o := fun j o hj => hth j o (by
        simp only [thRs]
        rw [List.getElem?_append_left (lt_of_get hj)]; exact hj)
      match r, x, a, hfst with
      | .cell (.imm t), x, a, _ =>
        simp only [valR, vecR] at a ⊢
        refine (a.mono (Ext.mem (memAll_le H g M w))).imm ?_
        have := immuts_enc t x.1
        cases e : enc t x.1 with
        | nil => rfl
        | cons v vs => rw [e] at this; simp only [immuts, Bool.and_eq_true] at this; exact this.1
      | .cell (.own e), x, a, hfst =>
        simp only [valR, vecR] at a ⊢
        exact obj_vec hr (by simpa using hfst 0 _ rfl) a
      | .cell (.deep e), x, a, hfst =>
        simp only [valR, vecR] at a ⊢
        exact dob_vec hr (by simpa using hfst 0 _ rfl) a
      | .agg ps, x, a, hfst =>
        simp only [valR, vecR] at a ⊢
        cases a with
        | agg _ cs hvs => exact .agg _ cs (encP_vec hr ps x.1 n hfst hvs)
end
theorem vecRs_len : ∀ (rs : List RT) (x : RD rs), (vecRs rs x).length = rs.length
  | [], _ => rfl
  | r :: rs, x => by simp only [vecRs, List.length_cons, vecRs_len rs x.2]

mutual
theorem VR.immut_nil {M : Mem} : ∀ {v : V} {c : Value}, VR [] M v c → immut v = true
  | _, _, .undef v => rfl
  | _, _, .bool b => rfl
  | _, _, .int k n h => rfl
  | _, _, .nanb n h h' => rfl
  | _, _, .empty b z ad cap h h' => rfl
  | _, _, .dob id ver ver' iv sz bs ih h val h1 h2 h3 h4 => by cases h1
  | _, _, .dep id ver ver' iv sz j off b o bs ih h h1 h2 h3 h4 => by cases h1
  | _, _, .inn id iv iv' ver j off sz bs ih h val h1 h2 h3 h4 => by cases h1
  | _, _, .float k b b' h h' => rfl
  | _, _, .str s l h h' => rfl
  | _, _, .agg vs cs h => by simp only [immut]; exact VRs.immut_nil h
  | _, _, .vecnil t ad cap => rfl
  | _, _, .vec t xs b off n cap cs h1 h2 h3 h4 => rfl
  | _, _, .nils => rfl
  | _, _, .nilp => rfl
  | _, _, .ref cells b base off o cs h1 h2 h3 => by simp only [immut]; exact VRs.immut_nil h2
  | _, _, .ptr id off b h => by cases h
  | _, _, .obj id ver ver' sz h val h1 h2 h3 h4 => by cases h1
  | _, _, .eptr id ver ver' sz j off b o h h1 h2 h3 h4 => by cases h1
  | _, _, .bptr id b buf h => by cases h
  | _, _, .psl id b t n h hn => by cases h
  | _, _, .fn f vs cs h => by simp only [immut]; exact VRs.immut_nil h
  | _, _, .tuple vs cs h => by simp only [immut]; exact VRs.immut_nil h
theorem VRs.immut_nil {M : Mem} : ∀ {vs : List V} {cs : List Value}, VRs [] M vs cs → immuts vs = true
  | _, _, .nil => rfl
  | _, _, .cons h t => by simp only [immuts, VR.immut_nil h, VRs.immut_nil t, Bool.and_self]
end
theorem fnOk_of_give {P : Program} {k : FuncId} {l : List AT} {rs : List RT} {gd : ADen l → Bool} {f : ADen l → RD rs} (hS : FnOkO P k (semV l rs gd f)) : FnOk P k (semG l gd fun x => tup (vecRs rs (f x))) := by
  intro args K hk
  unfold semG at hk
  split at hk
  · rename_i x hx
    cases hgd : gd x with
    | false => simp only [hgd, cond_false] at hk
    | true =>
      simp only [hgd, cond_true] at hk
      refine ⟨_, hk, fun K' h' => by simp only [semG, hx, hgd, cond_true]; exact h', ?_⟩
      intro w M cargs hv hM hG
      have himm := VRs.immut_nil hv
      obtain ⟨v, H1, h1, h2, h3⟩ := hS args [] (fun v hs => v = tup (valRs rs (f x) 0) ∧ hs = thRs rs (f x)) (by
        unfold semV
        simp only [himm, hx, hgd, cond_true]
        exact ⟨rfl, rfl⟩)
      obtain ⟨rfl, rfl⟩ := h1
      have hr1 : HR [] [] M w := ⟨rfl, (by intro j o y p1; cases p1), (by intro j j' o o' y y' b p1; cases p1), hM⟩
      refine (h3 w [] M _ hv hr1 hG).mono ?_
      rintro val w' ⟨g1, M1, q1, q2, q3, q4⟩
      have hno : ∀ b, ¬ Own ([] : Heap) ([] : List G) b := by rintro b ⟨j, o, y, p1, _⟩; cases p1
      refine ⟨memAll (thRs rs (f x)) g1 M1 w', VR_tup (by rw [valRs_len, vecRs_len]) (fun cs hcs => valRs_vec q2 rs (f x) 0 (fun j o hj => by rw [Nat.zero_add]; exact hj) hcs) q1, memAll_ok q2, ?_⟩
      refine ⟨q4.size, fun b hb' => q4.keep b hb' (hno b), fun b cs hb' => memAll_le _ _ _ _ b cs (q4.mle b cs hb'), ?_, q4.os, q4.tape, q4.output⟩
      intro b cs hb'
      unfold memAll at hb'
      split at hb'
      · rename_i cs' hm'
        cases hb'
        rcases q4.mnew b _ hm' with k | k | k
        · exact .inl k
        · exact absurd k (hno b)
        · exact .inr k
      · split at hb'
        · rename_i ho
          rcases q4.own b ho with k | k
          · exact absurd k (hno b)
          · exact .inr k
        · cases hb'
  · exact hk.elim

/-! ### a slice within a slice, written in place -/
theorem innerPlace {H : Heap} {g : List G} {M : Mem} {w : World} (hr : HR H g M w) {id iv i off ver : Nat} {t : Ty} {xs : List t.den} {x : t.den} {e : Ty} {ys : List e.den} (hid : H[id]? = some (.dp ver iv t xs)) (hxi : xs[i]? = some x) (hsub : subAt t x off = some ⟨e, ys⟩)
    {c : Value} (hv : VR g M (.inn id iv i off) c) :
    ∃ (y : G) (bs' : List Nat), g[id]? = some y ∧ DC w (.slice e) ys [c] bs' ∧ bs'.Nodup ∧ (∀ b ∈ bs', M b = none ∧ ownB (.dp ver iv t xs) y b) ∧ c.oneCell' = true ∧
      ∀ (M1 : Mem) (w' : World) (ys' : List e.den), (∀ b, b < w.heap.size → b ∉ bs' → w'.heap[b]? = w.heap[b]?) → DC w' (.slice e) ys' [c] bs' → (∀ b, ownB (.dp ver iv t xs) y b → M1 b = none) →
        ObOk g M1 w' (.dp ver iv t (xs.set i (putAt t x off e ys'))) y ∧ ∀ b, ownB (.dp ver iv t (xs.set i (putAt t x off e ys'))) y b → ownB (.dp ver iv t xs) y b := by
  cases hv with
  | inn _ _ iv' ver' _ _ sz bs ih h _ p1 p2 p3 p4 =>
    have ho := hr.ob id _ _ hid p1
    have ho' := ho
    simp only [ObOk] at ho
    obtain ⟨⟨rfl, rfl, rfl⟩, hdc, hnd, hmn, hih⟩ := ho
    have hval := p3 rfl
    obtain ⟨v0, hv0, hlen, hsz, ⟨_, rfl, _⟩ | ⟨b, cap, ce, T, fz, bss0, k1, _⟩⟩ := hdc
    · simp at hxi
    · cases hv0
      obtain ⟨ce, T, fz, bss, q1, q2, q3, q4, q5, q6, q7, q8, q9, q10⟩ := dp_elem p1 ho' k1
      have hi : i < xs.length := (List.getElem?_eq_some_iff.1 hxi).1
      have hib : i < bss.length := by omega
      have hbi : bss[i]? = some bss[i] := List.getElem?_eq_getElem hib
      have hd := q8 i x _ hxi hbi
      obtain ⟨b1, b2, v, bs', e1, e2, e3, e4, e5⟩ := DC_sub t hd hsub
      have := q9 i x hxi off v e2 e3
      rw [← hval] at this
      subst this
      have hnd2 := hnd
      rw [q6, List.nodup_cons] at hnd2
      have hbin : ∀ b', b' ∈ bss[i] → b' ∈ bs := fun b' hm => by rw [q6]; exact List.mem_cons_of_mem _ (List.mem_flatten.2 ⟨_, List.getElem_mem hib, hm⟩)
      have hbs' : ∀ b', b' ∈ bs' → b' ∈ bss[i] := fun b' hm => by rw [e1]; simp [hm]
      have hndi : bss[i].Nodup := (List.pairwise_flatten.1 hnd2.2).1 _ (List.getElem_mem hib)
      have hndi2 := hndi
      rw [e1, List.append_assoc, List.nodup_append, List.nodup_append] at hndi2
      have hbnot : b ∉ bs' := fun hm => hnd2.1 (List.mem_flatten.2 ⟨_, List.getElem_mem hib, hbs' b hm⟩)
      refine ⟨_, bs', p1, e4, hndi2.2.1.1, fun b' hm => ⟨hmn b' (hbin b' (hbs' b' hm)), hbin b' (hbs' b' hm)⟩, p4, ?_⟩
      intro M1 w' ys' hkeep hdc' hM1
      refine ⟨?_, fun b' hb' => hb'⟩
      have hblt : ∀ b', b' ∈ bs → b' < w.heap.size := fun b' hm => (dp_lt ho' hm).1
      have hcell : w'.heap[b]? = some (.cells ce T fz) := by
        rw [hkeep b (hblt b (by rw [q6]; simp)) hbnot]; exact q1
      simp only [ObOk]
      refine ⟨⟨trivial, trivial, trivial⟩, ⟨_, rfl, by rw [List.length_set]; exact hlen, hsz, .inr ⟨b, cap, ce, T, fz, bss, by rw [List.length_set]; exact k1, hcell, by rw [List.length_set]; exact q3, q4, q5, q6, by rw [List.length_set]; exact q7, ?_⟩⟩, hnd, fun b' hm => hM1 b' hm, ?_⟩
      · intro j z bj hz hbj
        by_cases hji : i = j
        · subst hji
          rw [List.getElem?_set_self hi] at hz
          cases hz
          rw [hbi] at hbj
          cases hbj
          refine e5 w' ys' (fun b' hm => hkeep b' (hblt b' (hbin b' (by rw [e1]; simp at hm ⊢; rcases hm with h | h <;> simp [h]))) fun hm2 => ?_) hdc'
          rcases List.mem_append.1 hm with h | h
          · exact hndi2.2.2 b' h b' (List.mem_append.2 (.inl hm2)) rfl
          · exact hndi2.2.1.2.2 b' hm2 b' h rfl
        · rw [List.getElem?_set_ne hji] at hz
          have hj : j < bss.length := (List.getElem?_eq_some_iff.1 hbj).1
          have hbje : bss[j] = bj := (List.getElem?_eq_some_iff.1 hbj).2
          refine DC_frame t (fun b' hm => hkeep b' (hblt b' (by rw [q6]; exact List.mem_cons_of_mem _ (List.mem_flatten.2 ⟨bj, List.mem_of_getElem? hbj, hm⟩))) fun hm2 => ?_) (q8 j z bj hz hbj)
          have hpw := (List.pairwise_flatten.1 hnd2.2).2
          rw [List.pairwise_iff_getElem] at hpw
          subst hbje
          rcases Nat.lt_or_ge i j with hlt | hge
          · exact hpw i j hib hj hlt b' (hbs' b' hm2) b' hm rfl
          · exact hpw j i hj hib (by omega) b' hm b' (hbs' b' hm2) rfl
      · intro b' n' cap' c' T' fz' e' hc' j o' hj ho2 hs'
        rw [k1] at e'
        cases e'
        rw [hcell] at hc'
        cases hc'
        rw [List.length_set] at hj
        exact hih b _ cap ce T fz k1 q1 j o' hj ho2 hs'

theorem DC_sl {g : List G} {M : Mem} {w : World} {e : Ty} {ys : List e.den} {c : Value} {bs : List Nat} (hf : flatTy e = true) (h : DC w (.slice e) ys [c] bs) (hm : ∀ b ∈ bs, M b = none) : ObOk g M w (.sl 0 e ys) (.sl c 0 e.size) ∧ (∀ b, ownB (.sl 0 e ys) (.sl c 0 e.size) b → b ∈ bs) ∧ (∀ b ∈ bs, ownB (.sl 0 e ys) (.sl c 0 e.size) b) := by
  obtain ⟨v, hv, hlen, hsz, ⟨rfl, rfl, rfl⟩ | ⟨b, cap, ce, T, fz, bss, rfl, k1, k2, k3, k4, rfl, k6, k7⟩⟩ := h
  · cases hv
    refine ⟨?_, fun b hb => by simp [ownB] at hb, by simp⟩
    simp only [ObOk]
    exact ⟨trivial, trivial, ⟨hsz, by simp⟩, .inl ⟨trivial, trivial⟩⟩
  · cases hv
    have hnil : bss.flatten = [] := by
      rw [List.flatten_eq_nil_iff]
      intro l hl
      obtain ⟨i, hi⟩ := List.mem_iff_getElem?.1 hl
      have hlt : i < ys.length := by rw [← k6]; exact lt_of_get hi
      exact (DC_flat (g := g) (M := M) e hf (k7 i ys[i] l (List.getElem?_eq_getElem hlt) hi)).1
    rw [hnil]
    refine ⟨?_, fun b' hb => by simp [ownB] at hb; simp [hb], fun b' hb => by simp at hb; subst hb; rfl⟩
    simp only [ObOk]
    refine ⟨trivial, trivial, ⟨hsz, hlen⟩, .inr ⟨b, cap, ce, T, fz, rfl, k1, k2, k3, fun i x hx => ?_, k4, hm b (by simp)⟩⟩
    have hlt : i < bss.length := by rw [k6]; exact lt_of_get hx
    exact (DC_flat e hf (k7 i x _ hx (List.getElem?_eq_getElem hlt))).2
theorem sl_DC {g : List G} {M : Mem} {w w' : World} {e : Ty} {ys ys' : List e.den} {c : Value} {bs : List Nat} (hf : flatTy e = true) (h : DC w (.slice e) ys [c] bs) (h' : ObOk g M w' (.sl 0 e ys') (.sl c 0 e.size)) : DC w' (.slice e) ys' [c] bs := by
  obtain ⟨bs2, q1, q2, q3⟩ := DC_of_sl hf h'
  have h0 := h
  obtain ⟨v, hv, hlen, hsz, ⟨rfl, rfl, rfl⟩ | ⟨b, cap, ce, T, fz, bss, rfl, k1, k2, k3, k4, rfl, k6, k7⟩⟩ := h
  · cases hv
    have : bs2 = [] := by
      cases bs2 with
      | nil => rfl
      | cons b r => have := q3 b (by simp); simp [ownB] at this
    rw [← this]; exact q1
  · cases hv
    have hnil : bss.flatten = [] := by
      rw [List.flatten_eq_nil_iff]
      intro l hl
      obtain ⟨i, hi⟩ := List.mem_iff_getElem?.1 hl
      have hlt : i < ys.length := by rw [← k6]; exact lt_of_get hi
      exact (DC_flat (g := g) (M := M) e hf (k7 i ys[i] l (List.getElem?_eq_getElem hlt) hi)).1
    rw [hnil]
    have hb2 : bs2 = [b] := by
      obtain ⟨v2, hv2, _, _, ⟨e2, _⟩ | ⟨b2, cap2, ce2, T2, fz2, bss2, e2, _, _, _, _, rfl, j6, j7⟩⟩ := q1
      · cases hv2; cases e2
      · cases hv2
        simp at e2
        obtain ⟨rfl, _, _⟩ := e2
        have hnil2 : bss2.flatten = [] := by
          rw [List.flatten_eq_nil_iff]
          intro l hl
          obtain ⟨i, hi⟩ := List.mem_iff_getElem?.1 hl
          have hlt : i < ys'.length := by rw [← j6]; exact lt_of_get hi
          exact (DC_flat (g := g) (M := M) e hf (j7 i ys'[i] l (List.getElem?_eq_getElem hlt) hi)).1
        rw [hnil2]
    rw [← hb2]; exact q1

/-- As semM, for one slice; it may stand within another one. -/
def semI (ag : Bool) (e : Ty) (p : Po) (toP : List e.den → PD [p]) (ofP : PD [p] → List e.den) (l : List AT) (gd : List e.den → ADen l → Bool) (f : List e.den → ADen l → V × List e.den) : Sm := fun args H K =>
  match args with
  | v :: r =>
    match cellsM ag v with
    | some [.inn id iv i off] =>
      match H[id]? with
      | some (.dp ver iv' t xs) => bif Nat.beq iv iv' then
          match xs[i]? with
          | some x => match subAt t x off with
            | some ⟨e', ys⟩ => if h : e' = e then
                match decAs l r with
                | some y => bif immut (f (h ▸ ys) y).1 then cond (gd (h ▸ ys) y) (K (f (h ▸ ys) y).1 (H.set id (.dp ver iv' t (xs.set i (putAt t x off e (f (h ▸ ys) y).2))))) False else False
                | none => False
              else False
            | none => False
          | none => False
        else False
      | _ => False
    | _ => semM ag [p] l (fun s x => gd (ofP s) x) (fun s x => ((f (ofP s) x).1, toP (f (ofP s) x).2)) args H K
  | [] => False

theorem semI_main {P : Program} {k : FuncId} {S : Sm} (hS : FnOkO P k S) {ag : Bool} {e : Ty} {p : Po} {toP : List e.den → PD [p]} {ofP : PD [p] → List e.den} {l : List AT} {gd : List e.den → ADen l → Bool} {f : List e.den → ADen l → V × List e.den}
    (hM : FnOkL P k (semM ag [p] l (fun s x => gd (ofP s) x) (fun s x => ((f (ofP s) x).1, toP (f (ofP s) x).2))))
    (th : List e.den → Ob) (vl : V)
    (h : ∀ (ys : List e.den) (x : ADen l), WfAs l x → gd ys x = true → ∀ (K : V → Heap → Prop), K (f ys x).1 [th (f ys x).2] → S (ofCells ag [vl] :: encAs l x) [th ys] K)
    (hth : ∀ {g : List G} {M : Mem} {w : World} {ys : List e.den} {c : Value} {bs : List Nat}, DC w (.slice e) ys [c] bs → bs.Nodup → (∀ b ∈ bs, M b = none) → c.oneCell' = true → ∃ y : G, y.fixed = true ∧ ObOk g M w (th ys) y ∧ (∀ b, ownB (th ys) y b → b ∈ bs) ∧ VR [y] M vl c ∧
      ∀ (g1 : List G) (M1 : Mem) (w' : World) (ys' : List e.den), ObOk g1 M1 w' (th ys') y → DC w' (.slice e) ys' [c] bs ∧ ∀ b ∈ bs, M1 b = none) : FnOkL P k (semI ag e p toP ofP l gd f) := by
  constructor
  · intro args H K hk
    unfold semI at hk
    split at hk
    · rename_i v r
      split at hk
      · rename_i id iv i off hcm
        split at hk
        · rename_i ver iv' t xs hid
          cases hiv : Nat.beq iv iv' with
          | false => simp only [hiv, cond_false] at hk
          | true =>
            simp only [hiv, cond_true] at hk
            have := beq_true hiv
            subst this
            split at hk
            · rename_i x hxi
              split at hk
              · rename_i e' ys hsub
                split at hk
                · rename_i he
                  subst he
                  split at hk
                  · rename_i y hy
                    simp only at hk
                    cases him : immut (f ys y).1 with
                    | false => simp only [him, cond_false] at hk
                    | true =>
                      simp only [him, cond_true] at hk
                      cases hgd : gd ys y with
                      | false => simp only [hgd, cond_false] at hk
                      | true =>
                      simp only [hgd, cond_true] at hk
                      refine ⟨_, _, hk, fun K' h' => by simp only [semI, hcm, hid, Nat.beq_refl, cond_true, hxi, hsub, dif_pos, hy, him, hgd]; exact h', ?_⟩
                      intro w g M cargs hv hr hG
                      cases hv with
                      | cons hp hrest =>
                      rename_i c0 cs0
                      have hwx : WfAs l y := wfAs_of hy hrest
                      -- the handle
                      have hinn : ∃ c, VR g M (.inn id iv i off) c ∧ ∀ (g' : List G) (M' : Mem), VR g' M' vl c → VR g' M' (ofCells ag [vl]) c0 := by
                        cases ag with
                        | true =>
                          simp only [cellsM, cond_true] at hcm
                          split at hcm
                          · rename_i us
                            cases hcm
                            cases hp with
                            | agg _ cs hcs =>
                              generalize hl : cs.toList = l0 at hcs
                              cases hcs with
                              | cons a b =>
                                cases b
                                exact ⟨_, a, fun g' M' hvl => .agg _ cs (by rw [hl]; exact .cons hvl .nil)⟩
                          · cases hcm
                        | false =>
                          simp only [cellsM, cond_false] at hcm
                          cases hcm
                          exact ⟨_, hp, fun g' M' hvl => hvl⟩
                      obtain ⟨c, hc1, hc2⟩ := hinn
                      obtain ⟨yg, bs', a1, a2, a3, a4, a5, a6⟩ := innerPlace hr hid hxi hsub hc1
                      obtain ⟨yc, b1, b2, b3, b4, b5⟩ := hth (g := []) (M := M) a2 a3 (fun b hb => (a4 b hb).1) a5
                      obtain ⟨_, _, _, b4', _⟩ := (⟨b1, b2, b3, b4, b5⟩ : _ ∧ _ ∧ _ ∧ _ ∧ _)
                      have hr1 : HR [th ys] [yc] M w := by
                        obtain ⟨yc', c1, c2, c3, c4, c5⟩ := hth (g := [yc]) (M := M) a2 a3 (fun b hb => (a4 b hb).1) a5
                        refine ⟨rfl, ?_, ?_, hr.mem⟩
                        · intro j o z p1 p2
                          match j, p1, p2 with
                          | 0, p1, p2 => cases p1; cases p2; exact b2.mono Ext.nil fun _ _ => rfl
                        · intro j j' o o' z z' b p1 p2 p3 p4 _ _
                          match j, j', p1, p3 with
                          | 0, 0, _, _ => rfl
                      generalize hs' : (f ys y).2 = ys' at *
                      obtain ⟨v1, H1, h1, h2, h3⟩ := hS (ofCells ag [vl] :: encAs l y) [th ys] (fun v hs => v = (f ys y).1 ∧ hs = [th ys']) (h ys y hwx hgd _ ⟨rfl, by rw [hs']⟩)
                      obtain ⟨rfl, rfl⟩ := h1
                      refine (h3 w [yc] M _ (.cons (hc2 _ _ b4) ((decAs_sound hy hrest).imm (immuts_encAs l y))) hr1 hG).mono ?_
                      rintro val w' ⟨g1, M1, q1, q2, q3, q4⟩
                      have hg0 : g1[0]? = some yc := q4.gbox 0 yc ⟨rfl, b1⟩
                      have hob1 := q2.ob 0 _ _ rfl hg0
                      obtain ⟨d1, d2⟩ := b5 g1 M1 w' ys' hob1
                      have hownc : ∀ b, Own [th ys] [yc] b → b ∈ bs' := by
                        rintro b ⟨j, o, z, p1, p2, p3⟩
                        match j, p1, p2 with
                        | 0, p1, p2 => cases p1; cases p2; exact b3 b p3
                      have hkeep : ∀ b, b < w.heap.size → b ∉ bs' → w'.heap[b]? = w.heap[b]? := fun b hb hn => q4.keep b hb fun ho => hn (hownc b ho)
                      obtain ⟨e1, e2⟩ := a6 M1 w' ys' hkeep d1 (fun b hb => by
                        by_cases hm : b ∈ bs'
                        · exact d2 b hm
                        · have hlt := Ev.own_lt (hr.ob id _ _ hid a1) hb
                          cases hM1 : M1 b with
                          | none => rfl
                          | some cs =>
                            rcases q4.mnew b cs hM1 with k | k | k
                            · rw [hlt.2] at k; cases k
                            · exact absurd (hownc b k) hm
                            · omega)
                      obtain ⟨r1, r2, r3⟩ := inPlace (L := fun j => j = id) (H' := H.set id (.dp ver iv t (xs.set i (putAt t x off e' ys')))) hr q2 q4 (by rw [List.length_set]) (fun b hb => ⟨id, _, yg, rfl, hid, a1, (a4 b (hownc b hb)).2⟩) (by
                        intro j o' z p1 p2
                        rcases set_get' p1 with ⟨rfl, rfl⟩ | ⟨hne, p1'⟩
                        · rw [a1] at p2; cases p2
                          exact .inr ⟨_, rfl, hid, e2, e1⟩
                        · exact .inl ⟨hne, p1'⟩)
                      exact ⟨g, M1, q1.imm him, r1, r2, r3⟩
                  · exact hk.elim
                · exact hk.elim
              · exact hk.elim
            · exact hk.elim
        · exact hk.elim
      · rename_i hne
        obtain ⟨v1, H1, h1, h2, h3⟩ := hM.1 _ H K hk
        refine ⟨v1, H1, h1, fun K' h' => ?_, h3⟩
        unfold semI
        split
        · rename_i v2 r2 heq
          cases heq
          split
          · rename_i id iv i off hcm
            exact absurd hcm (hne id iv i off)
          · exact h2 K' h'
        · rename_i heq; cases heq
    · exact hk.elim
  · intro v r H K hk
    unfold semI at hk ⊢
    simp only at hk ⊢
    split at hk
    · rename_i id iv i off hcm
      split at hk
      · rename_i ver iv' t xs hid
        cases hiv : Nat.beq iv iv' with
        | false => simp only [hiv, cond_false] at hk
        | true =>
          simp only [hiv, cond_true] at hk ⊢
          split at hk
          · rename_i x hxi
            split at hk
            · rename_i e' ys hsub
              split at hk
              · rename_i he
                subst he
                split at hk
                · rename_i y hy
                  simp only at hk ⊢
                  cases him : immut (f ys y).1 with
                  | false => simp only [him, cond_false] at hk
                  | true =>
                    simp only [him, cond_true] at hk ⊢
                    cases hgd : gd ys y with
                    | false => simp only [hgd, cond_false] at hk
                    | true =>
                      simp only [hgd, cond_true, dif_pos] at hk ⊢
                      exact ⟨hk, .of (BoxesStay.set' fun c e => by rw [hid] at e; cases e)⟩
                · exact hk.elim
              · exact hk.elim
            · exact hk.elim
          · exact hk.elim
      · exact hk.elim
    · exact hM.2 v r H K hk

abbrev semIF (ag : Bool) (e : Ty) (l : List AT) (gd : List e.den → ADen l → Bool) (f : List e.den → ADen l → V × List e.den) : Sm := semI ag e (.own e) (fun xs => (xs, ())) (fun s => s.1) l gd f
abbrev semID (ag : Bool) (e : Ty) (l : List AT) (gd : List e.den → ADen l → Bool) (f : List e.den → ADen l → V × List e.den) : Sm := semI ag e (.deep e) (fun xs => (xs, ())) (fun s => s.1) l gd f

theorem fnOkO_innF {P : Program} {k : FuncId} {S : Sm} (hS : FnOkO P k S) {ag : Bool} {e : Ty} (hf : flatTy e = true) {l : List AT} {gd : List e.den → ADen l → Bool} {f : List e.den → ADen l → V × List e.den}
    (h : ∀ (ys : List e.den) (x : ADen l), WfAs l x → gd ys x = true → ∀ (K : V → Heap → Prop), K (f ys x).1 [.sl 0 e (f ys x).2] → S (ofCells ag [.obj 0 0] :: encAs l x) [.sl 0 e ys] K) : FnOkL P k (semIF ag e l gd f) := by
  refine semI_main hS (fnOkO_mark hS (.inr (.inl ⟨e, rfl⟩)) fun s x wx hg K hK => h s.1 x wx hg K hK) (fun ys => .sl 0 e ys) (.obj 0 0) h ?_
  intro g M w ys c bs hd hnd hm hc
  obtain ⟨q1, q2, q3⟩ := DC_sl (g := g) hf hd hm
  refine ⟨.sl c 0 e.size, rfl, q1, q2, .obj 0 0 0 e.size c c rfl (Nat.le_refl _) (fun _ => rfl) hc, fun g1 M1 w' ys' h' => ⟨sl_DC hf hd h', fun b hb => ?_⟩⟩
  exact (Ev.own_lt h' ((ownB_sl ..).mp (q3 b hb))).2
theorem fnOkO_innD {P : Program} {k : FuncId} {S : Sm} (hS : FnOkO P k S) {ag : Bool} {e : Ty} {l : List AT} {gd : List e.den → ADen l → Bool} {f : List e.den → ADen l → V × List e.den}
    (h : ∀ (ys : List e.den) (x : ADen l), WfAs l x → gd ys x = true → ∀ (K : V → Heap → Prop), K (f ys x).1 [.dp 0 0 e (f ys x).2] → S (ofCells ag [.dob 0 0] :: encAs l x) [.dp 0 0 e ys] K) : FnOkL P k (semID ag e l gd f) := by
  refine semI_main hS (fnOkO_mark hS (.inr (.inr ⟨e, rfl⟩)) fun s x wx hg K hK => h s.1 x wx hg K hK) (fun ys => .dp 0 0 e ys) (.dob 0 0) h ?_
  intro g M w ys c bs hd hnd hm hc
  have fin : ∀ ih, ObOk g M w (.dp 0 0 e ys) (.dp c 0 0 e.size bs ih) → ∃ y : G, y.fixed = true ∧ ObOk g M w (.dp 0 0 e ys) y ∧ (∀ b, ownB (.dp 0 0 e ys) y b → b ∈ bs) ∧ VR [y] M (.dob 0 0) c ∧
      ∀ (g1 : List G) (M1 : Mem) (w' : World) (ys' : List e.den), ObOk g1 M1 w' (.dp 0 0 e ys') y → DC w' (.slice e) ys' [c] bs ∧ ∀ b ∈ bs, M1 b = none := by
    intro ih ho
    refine ⟨_, rfl, ho, fun b hb => hb, .dob 0 0 0 0 e.size bs ih c c rfl (Nat.le_refl _) (fun _ => rfl) hc, fun g1 M1 w' ys' h' => ?_⟩
    simp only [ObOk] at h'
    exact ⟨h'.2.1, h'.2.2.2.1⟩
  have hd0 := hd
  obtain ⟨v, hv, hlen, hsz, ⟨rfl, rfl, rfl⟩ | ⟨b, cap, ce, T, fz, bss, rfl, k1, k2, k3, k4, rfl, k6, k7⟩⟩ := hd
  · cases hv
    refine fin (fun _ => Go.undef) ?_
    simp only [ObOk]
    refine ⟨⟨trivial, trivial, trivial⟩, hd0, .nil, by simp, ?_⟩
    intro b n cap c T fz e'
    cases e'
  · cases hv
    rw [List.nodup_cons] at hnd
    exact fin _ (dp_mk k1 ⟨k6, by simp; exact Nat.le_trans (Nat.mul_le_mul_right _ k2) k3, k7⟩ k2 k3 k4 hsz hlen hnd.2 hnd.1 (hm b (by simp)) (fun b' hb' => hm b' (by simp [hb'])))
end Go.Ev
