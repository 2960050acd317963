/- Merged texts: EvUse EvRow EvExt EvLoop EvGive EvFrame EvTake EvLem Pre Src Idx Vec Shape Shapes ShP ShQ ShW FlA FlB FlC FlD FlE FlF FlG. -/
import Derived.Test.YtfhpmcdbfebflaaM2
import Derived.ProofKit
import Derived.Below
import Derived.Carry
import Derived.ChangeOld
import Derived.Laws.Externs
import Derived.IntWalk
import Derived.Test.YtfhpmcdbfebflaaRows
import Ieee.Arith
/- How a function's equation becomes a fact that its callers may use. -/
set_option linter.unusedVariables false
set_option linter.unusedSimpArgs false
namespace Go.Ev

abbrev Sm := List V → Heap → (V → Heap → Prop) → Prop

def look : List (FuncId × Sm) → FuncId → Sm
  | [], _ => fun _ _ _ => False
  | (k, S) :: r, f => bif Nat.beq f k then S else look r f

theorem fnOk_none (P : Program) (k : FuncId) : FnOk P k (fun _ _ _ => False) := fun _ _ h => h.elim

/-- The callees that a function may use, each with its proof. -/
inductive Known (P : Program) : List (FuncId × Sm) → Prop
  | nil : Known P []
  | cons {k : FuncId} {S : Sm} {r : List (FuncId × Sm)} : FnOk P k S → Known P r → Known P ((k, S) :: r)

theorem known_ok {P : Program} : ∀ {l : List (FuncId × Sm)}, Known P l → ∀ f, FnOk P f (look l f)
  | _, .nil, f => fnOk_none P f
  | _, .cons (k := k) (S := S) (r := r) h t, f => by
    show FnOk P f (bif Nat.beq f k then S else look r f)
    cases e : Nat.beq f k with
    | true => rw [beq_true e]; exact h
    | false => exact known_ok t f

/-- The type of a slice's elements. -/
def tyNest : List Ty → Ty
  | [] => .unit
  | [a] => a
  | a :: r => .pair a (tyNest r)
def tyFlat (P : Program) : Nat → TypeId → Ty
  | 0, _ => .unit
  | n + 1, t => match P.underlying t with
    | some (.int k) => .int k
    | some (.float k) => .float k
    | some .bool => .bool
    | some .string => .str
    | some (.slice e) => .slice (tyFlat P n e)
    | some (.struct fs) => tyNest (fs.toList.map fun f => tyFlat P n f.type)
    | some (.array k e) => tyNest (List.replicate k (tyFlat P n e))
    | _ => .unit
def elemTy (P : Program) (t : TypeId) : Ty := match P.underlying t with
  | some (.slice e) => tyFlat P 8 e
  | _ => .unit

/-! ### arguments by their types -/
inductive AT where
  | cell (t : Ty)
  | agg (t : Ty)
  | fn (f : FuncId)
  | ref (t : Ty)
  | clo (f : FuncId) (t : Ty)
  | refp (t : Ty)
  | nothing

@[reducible] def AT.den : AT → Type
  | .cell t => t.den
  | .agg t => t.den
  | .fn _ => Unit
  | .ref t => t.den
  | .clo _ t => t.den
  | .refp t => t.den
  | .nothing => Unit

def decA : (a : AT) → V → Option a.den
  | .cell t, v => bif Nat.beq t.size 1 then (match dec t [v] with
    | some (x, []) => some x
    | _ => none) else none
  | .agg t, .agg vs => match dec t vs with
    | some (x, []) => some x
    | _ => none
  | .fn f, .fn g [] => bif Nat.beq f g then some () else none
  | .ref t, .ref cells off => match dec t (cells.drop off) with
    | some (x, _) => some x
    | none => none
  | .clo f t, .fn g [.ref cells off] => bif Nat.beq f g then (match dec t (cells.drop off) with
    | some (x, _) => some x
    | none => none) else none
  | .refp t, .ref cells off => match cells.drop off with
    | .ref cs o :: _ => match dec t (cs.drop o) with
      | some (x, _) => some x
      | none => none
    | _ => none
  | .nothing, .nils => some ()
  | _, _ => none

def encA : (a : AT) → a.den → V
  | .cell t, x => (enc t x).headD .undef
  | .agg t, x => .agg (enc t x)
  | .fn f, _ => .fn f []
  | .ref t, x => .ref (enc t x) 0
  | .clo f t, x => .fn f [.ref (enc t x) 0]
  | .refp t, x => .ref [.ref (enc t x) 0] 0
  | .nothing, _ => .nils

theorem ref_sound {g : List G} {M : Mem} {t : Ty} {cells : List V} {off : Nat} {x : t.den} {r : List V} (hd : dec t (cells.drop off) = some (x, r)) {c : Value} (hv : VR g M (.ref cells off) c) : VR g M (.ref (enc t x) 0) c := by
  cases hv with
  | ref _ b base _ o cs p1 p2 p3 =>
    have h1 := (dec_sound t hd (p2.drop off)).1
    have hl := h1.length
    rw [List.drop_take, List.drop_drop, List.take_take] at h1
    rw [enc_length, List.length_take, List.length_drop, List.length_take, List.length_drop] at hl
    rw [Nat.min_eq_left (by omega)] at h1
    refine .ref (enc t x) b (base + off) 0 o cs p1 ?_ (by omega)
    rw [enc_length]
    exact h1
theorem decA_sound {g : List G} {M : Mem} {a : AT} {v : V} {x : a.den} (h : decA a v = some x) {c : Value} (hv : VR g M v c) : VR g M (encA a x) c := by
  cases a with
  | nothing =>
    cases v <;> simp only [decA] at h <;> try (cases h; done)
    exact hv
  | cell t =>
    simp only [decA] at h
    cases hts : Nat.beq t.size 1 with
    | false => simp only [hts, cond_false] at h; cases h
    | true =>
    simp only [hts, cond_true] at h
    split at h
    · rename_i y hd
      cases h
      obtain ⟨h1, h2⟩ := dec_sound t hd (cs := [c]) (.cons hv .nil)
      have hl := h1.length
      have hl2 := h2.length
      simp only [encA]
      cases e : enc t x with
      | nil => exact .undef _
      | cons u us =>
        rw [e] at h1
        have hts : t.size ≠ 0 := by
          intro e0
          rw [← enc_length t x, e] at e0
          simp at e0
        rw [List.take_of_length_le (by simp; omega)] at h1
        cases h1 with
        | cons p q => exact p
    · cases h
  | agg t =>
    cases v <;> simp only [decA] at h <;> try (cases h; done)
    split at h
    · rename_i y hd
      cases h
      cases hv with
      | agg _ cs hvs =>
        obtain ⟨h1, h2⟩ := dec_sound t hd hvs
        have hl2 := h2.length
        simp only [encA]
        refine .agg _ cs ?_
        rw [List.take_of_length_le (by simp at hl2 ⊢; omega)] at h1
        exact h1
    · cases h
  | clo f t =>
    cases v <;> simp only [decA] at h <;> try (cases h; done)
    rename_i g vs
    match vs, h, hv with
    | [], h, _ => simp only [decA] at h; cases h
    | [v], h, hv =>
      cases v <;> simp only [decA] at h <;> try (cases h; done)
      rename_i cells off
      cases e : Nat.beq f g with
      | false => rw [e] at h; cases h
      | true =>
        rw [e] at h
        simp only [cond_true] at h
        split at h
        · rename_i y r hd
          cases h
          rw [← beq_true e] at hv
          cases hv with
          | fn _ _ cs0 hvs =>
            generalize hl0 : cs0.toList = l0 at hvs
            cases hvs with
            | cons a b =>
            cases b
            cases a with
            | ref _ b base _ o cs p1 p2 p3 =>
              have h1 := (dec_sound t hd (p2.drop off)).1
              have hl := h1.length
              rw [List.drop_take, List.drop_drop, List.take_take] at h1
              rw [enc_length, List.length_take, List.length_drop, List.length_take, List.length_drop] at hl
              rw [Nat.min_eq_left (by omega)] at h1
              simp only [encA]
              refine .fn f _ cs0 ?_
              rw [hl0]
              refine .cons (.ref (enc t x) b (base + off) 0 o cs p1 ?_ (by omega)) .nil
              rw [enc_length]
              exact h1
        · cases h
    | _ :: _ :: _, h, _ => simp only [decA] at h; cases h
  | ref t =>
    cases v <;> simp only [decA] at h <;> try (cases h; done)
    rename_i cells off
    split at h
    · rename_i y r hd
      cases h
      cases hv with
      | ref _ b base _ o cs p1 p2 p3 =>
        have h1 := (dec_sound t hd (p2.drop off)).1
        have hl := h1.length
        rw [List.drop_take, List.drop_drop, List.take_take] at h1
        rw [enc_length, List.length_take, List.length_drop, List.length_take, List.length_drop] at hl
        rw [Nat.min_eq_left (by omega)] at h1
        simp only [encA]
        refine .ref (enc t x) b (base + off) 0 o cs p1 ?_ (by omega)
        rw [enc_length]
        exact h1
    · cases h
  | refp t =>
    cases v <;> simp only [decA] at h <;> try (cases h; done)
    rename_i cells off
    split at h
    · rename_i cs o r hdr
      split at h
      · rename_i y r' hd
        cases h
        cases hv with
        | ref _ b base _ oo cc p1 p2 p3 =>
          have h1 := p2.drop off
          rw [hdr] at h1
          have hl := h1.length
          generalize hcc : List.drop off (List.take cells.length (List.drop base cc)) = l at h1
          cases h1 with
          | cons q1 q2 =>
            rename_i c1 cs1
            simp only [encA]
            refine .ref [.ref (enc t x) 0] b (base + off) 0 oo cc p1 ?_ (by omega)
            rw [List.drop_take, List.drop_drop] at hcc
            have hlt : off < cells.length := by
              rcases Nat.lt_or_ge off cells.length with h' | h'
              · exact h'
              · rw [List.drop_eq_nil_of_le h'] at hdr; cases hdr
            have e1 : List.take [V.ref (enc t x) 0].length (List.drop (base + off) cc) = [c1] := by
              have := congrArg (List.take 1) hcc
              rw [List.take_take, Nat.min_eq_left (by omega)] at this
              simpa using this
            rw [e1]
            exact .cons (ref_sound hd q1) .nil
      · cases h
    · cases h
  | fn f =>
    cases v <;> simp only [decA] at h <;> try (cases h; done)
    rename_i g vs
    cases vs with
    | nil =>
      simp only [decA] at h
      cases e : Nat.beq f g with
      | true => rw [← beq_true e] at hv; exact hv
      | false => rw [e] at h; cases h
    | cons _ _ => simp only [decA] at h; cases h

@[reducible] def ADen : List AT → Type
  | [] => Unit
  | a :: r => a.den × ADen r

def decAs : (l : List AT) → List V → Option (ADen l)
  | [], [] => some ()
  | a :: r, v :: vs => match decA a v with
    | some x => match decAs r vs with
      | some y => some (x, y)
      | none => none
    | none => none
  | _, _ => none

def encAs : (l : List AT) → ADen l → List V
  | [], _ => []
  | a :: r, x => encA a x.1 :: encAs r x.2

theorem decAs_sound {g : List G} {M : Mem} : ∀ {l : List AT} {vs : List V} {x : ADen l}, decAs l vs = some x → ∀ {cs : List Value}, VRs g M vs cs → VRs g M (encAs l x) cs
  | [], [], x, h, cs, hv => by cases hv; exact .nil
  | [], _ :: _, x, h, cs, hv => by simp only [decAs] at h; cases h
  | _ :: _, [], x, h, cs, hv => by simp only [decAs] at h; cases h
  | a :: r, v :: vs, x, h, cs, hv => by
    simp only [decAs] at h
    split at h
    · rename_i y h1
      split at h
      · rename_i z h2
        cases h
        cases hv with
        | cons p q => exact .cons (decA_sound h1 p) (decAs_sound h2 q)
      · cases h
    · cases h

/-- What is known of a plain value that a function is given. -/
def Wf : (t : Ty) → t.den → Prop
  | .int k, n => k.min ≤ n ∧ n ≤ k.max
  | .float k, b => b < 2 * signOf k ∧ canon k b = b
  | .bool, _ => True
  | .str, s => s.length ≤ maxLen
  | .slice t, xs => xs.length ≤ maxLen ∧ ∀ x ∈ xs, Wf t x
  | .pair a b, x => Wf a x.1 ∧ Wf b x.2
  | .unit, _ => True

theorem wf_of_VRs {g : List G} {M : Mem} : ∀ (t : Ty) (x : t.den) {cs : List Value}, VRs g M (enc t x) cs → Wf t x := by
  intro t
  induction t with
  | int k => intro x cs h; cases h with | cons a b => cases a with | int _ _ h => exact h
  | float k => intro x cs h; cases h with | cons a b => cases a with | float _ _ b' h1 h2 => subst h2; exact ⟨canon_lt h1, canon_canon k b'⟩
  | bool => intro x cs h; trivial
  | str => intro x cs h; cases h with | cons a b => cases a with | str _ _ h1 h2 => exact h2
  | slice t ih =>
    intro xs cs h
    cases h with
    | cons a b =>
      cases a with
      | vecnil => exact ⟨Nat.zero_le _, by simp⟩
      | vec _ _ b off n cap cs p1 p2 p3 p4 =>
        refine ⟨by rw [← p2.1]; exact p2.2, fun x hx => ?_⟩
        obtain ⟨i, hi⟩ := List.mem_iff_getElem?.1 hx
        exact ih x (p4 i x hi)
  | pair a b iha ihb =>
    intro x cs h
    simp only [enc] at h
    obtain ⟨h1, h2⟩ := h.split
    exact ⟨iha x.1 h1, ihb x.2 h2⟩
  | unit => intro x cs h; trivial

def WfA : (a : AT) → a.den → Prop
  | .cell t, x => Wf t x
  | .agg t, x => Wf t x
  | .fn _, _ => True
  | .ref t, x => Wf t x
  | .clo _ t, x => Wf t x
  | .refp t, x => Wf t x
  | .nothing, _ => True

def WfAs : (l : List AT) → ADen l → Prop
  | [], _ => True
  | a :: r, x => WfA a x.1 ∧ WfAs r x.2

/-- A function of typed arguments. -/
def semT (l : List AT) (f : ADen l → V) : Sm := fun args hs K =>
  match decAs l args with
  | some x => K (f x) hs
  | none => False

theorem wfA_of {g : List G} {M : Mem} {a : AT} {v : V} {x : a.den} (h : decA a v = some x) {c : Value} (hv : VR g M v c) : WfA a x := by
  cases a with
  | nothing => trivial
  | cell t =>
    simp only [decA] at h
    cases hts : Nat.beq t.size 1 with
    | false => simp only [hts, cond_false] at h; cases h
    | true =>
    simp only [hts, cond_true] at h
    split at h
    · rename_i y hd
      cases h
      exact wf_of_VRs t x (dec_sound t hd (cs := [c]) (.cons hv .nil)).1
    · cases h
  | agg t =>
    cases v <;> simp only [decA] at h <;> try (cases h; done)
    split at h
    · rename_i y hd
      cases h
      cases hv with
      | agg _ cs hvs => exact wf_of_VRs t x (dec_sound t hd hvs).1
    · cases h
  | ref t =>
    cases v <;> simp only [decA] at h <;> try (cases h; done)
    rename_i cells off
    split at h
    · rename_i y r hd
      cases h
      cases hv with
      | ref _ b base _ o cs p1 p2 p3 => exact wf_of_VRs t x (dec_sound t hd (p2.drop off)).1
    · cases h
  | clo f t =>
    cases v <;> simp only [decA] at h <;> try (cases h; done)
    rename_i g vs
    match vs, h, hv with
    | [], h, _ => simp only [decA] at h; cases h
    | [v], h, hv =>
      cases v <;> simp only [decA] at h <;> try (cases h; done)
      rename_i cells off
      cases e : Nat.beq f g with
      | false => rw [e] at h; cases h
      | true =>
        rw [e] at h
        simp only [cond_true] at h
        split at h
        · rename_i y r hd
          cases h
          cases hv with
          | fn _ _ cs0 hvs =>
            generalize hl0 : cs0.toList = l0 at hvs
            cases hvs with
            | cons a b =>
            cases a with
            | ref _ b base _ o cs p1 p2 p3 => exact wf_of_VRs t x (dec_sound t hd (p2.drop off)).1
        · cases h
    | _ :: _ :: _, h, _ => simp only [decA] at h; cases h
  | refp t =>
    cases v <;> simp only [decA] at h <;> try (cases h; done)
    rename_i cells off
    split at h
    · rename_i cs o r hdr
      split at h
      · rename_i y r' hd
        cases h
        cases hv with
        | ref _ b base _ oo cc p1 p2 p3 =>
          have h1 := p2.drop off
          rw [hdr] at h1
          generalize List.drop off (List.take cells.length (List.drop base cc)) = l at h1
          cases h1 with
          | cons q1 q2 =>
            cases q1 with
            | ref _ b base _ o cs p1 p2 p3 => exact wf_of_VRs t x (dec_sound t hd (p2.drop _)).1
      · cases h
    · cases h
  | fn f => trivial

theorem wfAs_of {g : List G} {M : Mem} : ∀ {l : List AT} {vs : List V} {x : ADen l}, decAs l vs = some x → ∀ {cs : List Value}, VRs g M vs cs → WfAs l x
  | [], [], x, h, cs, hv => trivial
  | [], _ :: _, x, h, cs, hv => by simp only [decAs] at h; cases h
  | _ :: _, [], x, h, cs, hv => by simp only [decAs] at h; cases h
  | a :: r, v :: vs, x, h, cs, hv => by
    simp only [decAs] at h
    split at h
    · rename_i y h1
      split at h
      · rename_i z h2
        cases h
        cases hv with
        | cons p q => exact ⟨wfA_of h1 p, wfAs_of h2 q⟩
      · cases h
    · cases h

theorem fnOk_typed {P : Program} {k : FuncId} {S : Sm} (hS : FnOk P k S) {l : List AT} {f : ADen l → V} (h : ∀ (x : ADen l), WfAs l x → ∀ (K : V → Heap → Prop), K (f x) [] → S (encAs l x) [] K) : FnOk P k (semT l f) := by
  intro args K hk
  simp only [semT] at hk
  split at hk
  · rename_i x hd
    refine ⟨f x, hk, fun K' h' => ?_, ?_⟩
    · simp only [semT, hd]; exact h'
    · intro w M cargs hv hm hG
      obtain ⟨v, h1, h2, h3⟩ := hS (encAs l x) (fun v hs => v = f x ∧ hs = []) (h x (wfAs_of hd hv) _ ⟨rfl, rfl⟩)
      obtain ⟨rfl, _⟩ := h1
      exact h3 w M cargs (decAs_sound hd hv) hm hG
  · exact hk.elim

/-- A function of typed arguments that is asked only where a test holds. -/
def semG (l : List AT) (gd : ADen l → Bool) (f : ADen l → V) : Sm := fun args hs K =>
  match decAs l args with
  | some x => cond (gd x) (K (f x) hs) False
  | none => False

theorem fnOk_typedG {P : Program} {k : FuncId} {S : Sm} (hS : FnOk P k S) {l : List AT} {gd : ADen l → Bool} {f : ADen l → V} (h : ∀ (x : ADen l), WfAs l x → gd x = true → ∀ (K : V → Heap → Prop), K (f x) [] → S (encAs l x) [] K) : FnOk P k (semG l gd f) := by
  intro args K hk
  simp only [semG] at hk
  split at hk
  · rename_i x hd
    cases hgd : gd x with
    | false => simp only [hgd, cond_false] at hk
    | true =>
    simp only [hgd, cond_true] at hk
    refine ⟨f x, hk, fun K' h' => ?_, ?_⟩
    · simp only [semG, hd, hgd, cond_true]; exact h'
    · intro w M cargs hv hm hG
      obtain ⟨v, h1, h2, h3⟩ := hS (encAs l x) (fun v hs => v = f x ∧ hs = []) (h x (wfAs_of hd hv) hgd _ ⟨rfl, rfl⟩)
      obtain ⟨rfl, _⟩ := h1
      exact h3 w M cargs (decAs_sound hd hv) hm hG
  · exact hk.elim

/-! ### functions that write what their callers own -/
theorem fnOkO_none (P : Program) (k : FuncId) : FnOkL P k (fun _ _ _ => False) := ⟨fun _ _ _ h => h.elim, fun _ _ _ _ h => h.elim⟩

inductive KnownO (P : Program) : List (FuncId × Sm) → Prop
  | nil : KnownO P []
  | cons {k : FuncId} {S : Sm} {r : List (FuncId × Sm)} : FnOkL P k S → KnownO P r → KnownO P ((k, S) :: r)

theorem knownO_ok {P : Program} : ∀ {l : List (FuncId × Sm)}, KnownO P l → ∀ f, FnOkL P f (look l f)
  | _, .nil, f => fnOkO_none P f
  | _, .cons (k := k) (S := S) (r := r) h t, f => by
    show FnOkL P f (bif Nat.beq f k then S else look r f)
    cases e : Nat.beq f k with
    | true => rw [beq_true e]; exact h
    | false => exact knownO_ok t f

def has : List (FuncId × Sm) → FuncId → Bool
  | [], _ => false
  | (k, _) :: r, f => bif Nat.beq f k then true else has r f

/-- Contracts that change one thing alone. -/
inductive KnownE (P : Program) : List (FuncId × Sm) → Prop
  | nil : KnownE P []
  | cons {k : FuncId} {S : Sm} {r : List (FuncId × Sm)} : FnOkL P k S → LocalE S → KnownE P r → KnownE P ((k, S) :: r)
theorem knownE_ok {P : Program} : ∀ {l : List (FuncId × Sm)}, KnownE P l → ∀ f, FnOkL P f (look l f) ∧ LocalE (look l f)
  | _, .nil, f => ⟨fnOkO_none P f, fun _ _ _ _ _ _ h => h.elim⟩
  | _, .cons (k := k) (S := S) (r := r) h e t, f => by
    show FnOkL P f (bif Nat.beq f k then S else look r f) ∧ LocalE (bif Nat.beq f k then S else look r f)
    cases e' : Nat.beq f k with
    | true => rw [beq_true e']; exact ⟨h, e⟩
    | false => exact knownE_ok t f
/-- Callees that only look, callees that keep what they are given, callees that write. -/
def mkC (P : Program) (ty : TypeId → Ty) (kv kf ko : List (FuncId × Sm)) (n : Nat) (ann : Nat → Option Ann) (base : Nat) (cut : Bool := false) (kd : List (FuncId × Sm) := []) (deep : Bool := false) (mv : Bool := false) (vw : Bool := false) (ke : List (FuncId × Sm) := []) : Ctx :=
  { ti := tiOf P ty, call := fun f => bif has ke f then look ke f else bif has ko f then look ko f else bif has kf f then look kf f else look kv f,
    pass := fun f => bif has ke f then .own else bif has ko f then .own else bif has kf f then .freeze else .view, ntmps := n, ann := ann, base := base, cut := cut, deep := deep, mv := mv, vw := vw
    es := has ke
    esD := fun f => bif has kd f then false else has ke f
    callD := fun f => bif has kd f then look kd f else bif has ke f then look ke f else bif has ko f then look ko f else bif has kf f then look kf f else look kv f
    passD := fun f => bif has kd f then .view else bif has ke f then .own else bif has ko f then .own else bif has kf f then .freeze else .view }

theorem mkC_calls {P : Program} {ty : TypeId → Ty} {kv kf ko : List (FuncId × Sm)} {n : Nat} {ann : Nat → Option Ann} {base : Nat} {cut : Bool} {kd : List (FuncId × Sm)} {deep mv vw : Bool} {ke : List (FuncId × Sm)} (h1 : Known P kv) (h2 : Known P kf) (h3 : KnownO P ko) (h4 : Known P kd) (h5 : KnownE P ke) : CallsOk0 P (mkC P ty kv kf ko n ann base cut kd deep mv vw ke) := by
  refine ⟨?_, ?_, ?_, ?_⟩
  · intro f
    simp only [mkC]
    cases e0 : has ke f with
    | true => simp only [cond_true]; exact (knownE_ok h5 f).1
    | false =>
    simp only [cond_false]
    cases e : has ko f with
    | true => simp only [cond_true]; exact knownO_ok h3 f
    | false =>
      simp only [cond_false]
      cases e2 : has kf f with
      | true => simp only [cond_true]; exact known_ok h2 f
      | false => simp only [cond_false]; exact known_ok h1 f
  · intro f
    simp only [mkC, Ctx.drawn]
    cases e0 : has kd f with
    | true => simp only [cond_true]; exact known_ok h4 f
    | false =>
    simp only [cond_false]
    cases e0 : has ke f with
    | true => simp only [cond_true]; exact (knownE_ok h5 f).1
    | false =>
    simp only [cond_false]
    cases e : has ko f with
    | true => simp only [cond_true]; exact knownO_ok h3 f
    | false =>
      simp only [cond_false]
      cases e2 : has kf f with
      | true => simp only [cond_true]; exact known_ok h2 f
      | false => simp only [cond_false]; exact known_ok h1 f
  · intro f _ he
    simp only [mkC] at he ⊢
    rw [he, cond_true]
    exact (knownE_ok h5 f).2
  · intro f _ he
    simp only [mkC, Ctx.drawn] at he ⊢
    cases e0 : has kd f with
    | true => rw [e0, cond_true] at he; cases he
    | false =>
      rw [e0, cond_false] at he
      rw [cond_false, he, cond_true]
      exact (knownE_ok h5 f).2

theorem fnOk_runC {P : Program} {C : Ctx} {ty : TypeId → Ty} {kv kf ko : List (FuncId × Sm)} {n : Nat} {ann : Nat → Option Ann} {cut : Bool} {kd : List (FuncId × Sm)} {deep mv vw : Bool} {ke : List (FuncId × Sm)} (hC : C = mkC P ty kv kf ko n ann 0 cut kd deep mv vw ke) (hm : P.follows .mixedOrders = true)
    (h1 : Known P kv) (h2 : Known P kf) (h3 : KnownO P ko) {k : FuncId} {fn : Func} (hf : P.funcs[k]? = some fn) (hn : (fn.name == "runtime.NumGoroutine") = false) (h4 : Known P kd := by exact .nil) (h5 : KnownE P ke := by exact .nil) : FnOk P k (wpFn C fn) := by
  subst hC
  exact fnOk_of_wpFn (lok_tiOf P ty _ rfl) (mkC_calls h1 h2 h3 h4 h5) hm hf hn

end Go.Ev

/- A law's arguments, read as plain values; and the frame of a law's row. -/
set_option linter.unusedVariables false
set_option linter.unusedSimpArgs false
namespace Go.Ev
open Go.WideShapes Go.RowKit

mutual
/-- The program's type is laid as the plain one. -/
def tyFits (P : Program) : Nat → TypeId → Ty → Bool
  | 0, _, _ => false
  | n + 1, T, t =>
    match P.underlying T, t with
    | some .bool, .bool => true
    | some (.int k), .int k' => k == k'
    | some (.float k), .float k' => k == k'
    | some .string, .str => true
    | some (.slice e), .slice t => Nat.beq (P.cellsOf e) t.size && !Nat.beq t.size 0 && tyFits P n e t
    | some (.struct fs), t => Nat.beq (P.cellsOf T) t.size && fieldsFit P n fs.toList 0 t
    | some (.array m e), t => Nat.beq (P.cellsOf T) t.size && elemsFit P n e m 0 t
    | _, _ => false
def fieldsFit (P : Program) : Nat → List Field → Nat → Ty → Bool
  | 0, _, _, _ => false
  | _ + 1, [], _, _ => false
  | n + 1, [f], off, t => Nat.beq f.offset off && Nat.beq (P.cellsOf f.type) t.size && tyFits P n f.type t
  | n + 1, f :: r, off, .pair a b => Nat.beq f.offset off && Nat.beq (P.cellsOf f.type) a.size && tyFits P n f.type a && fieldsFit P n r (off + a.size) b
  | _ + 1, _ :: _ :: _, _, _ => false
def elemsFit (P : Program) : Nat → TypeId → Nat → Nat → Ty → Bool
  | 0, _, _, _, _ => false
  | _ + 1, _, 0, _, _ => false
  | n + 1, e, 1, i, t => Nat.beq (P.cellsOf e) t.size && tyFits P n e t
  | n + 1, e, m + 2, i, .pair a b => Nat.beq (P.cellsOf e) a.size && tyFits P n e a && elemsFit P n e (m + 1) (i + 1) b
  | _ + 1, _, _ + 2, _, _ => false
end

def memOf (W : World) : Mem := fun b => match W.heap[b]? with | some (.cells c _ _) => some c.toList | _ => none
theorem memOf_ok (W : World) : MemOk (memOf W) W := by
  intro b cs h
  unfold memOf at h
  split at h
  · rename_i c T fz hc
    cases h
    exact ⟨c, T, fz, hc, rfl⟩
  · cases h

theorem mapM_range {α : Type} (f : Nat → Option α) : ∀ (n : Nat) (xs : List α), (List.range n).mapM f = some xs → xs.length = n ∧ ∀ i, i < n → ∃ x, xs[i]? = some x ∧ f i = some x := by
  have gen : ∀ (l : List Nat) (xs : List α), l.mapM f = some xs → xs.length = l.length ∧ ∀ (i : Nat) (j : Nat), l[i]? = some j → ∃ x, xs[i]? = some x ∧ f j = some x := by
    intro l
    induction l with
    | nil => intro xs h; simp at h; subst h; simp
    | cons j l ih =>
      intro xs h
      simp only [List.mapM_cons, Option.bind_eq_bind, Option.bind_eq_some_iff, Option.pure_def] at h
      obtain ⟨x, hx, ys, hys, e⟩ := h
      cases e
      obtain ⟨h1, h2⟩ := ih ys hys
      refine ⟨by simp [h1], ?_⟩
      intro i k hk
      cases i with
      | zero => simp at hk; subst hk; exact ⟨x, rfl, hx⟩
      | succ i => exact h2 i k (by simpa using hk)
  intro n xs h
  obtain ⟨h1, h2⟩ := gen _ xs h
  refine ⟨by simpa using h1, fun i hi => h2 i i ?_⟩
  simp [List.getElem?_range, hi]

theorem cells?_some {W : World} {base : Nat} {a : Addr} {n : Nat} {cs : List Value} (h : W.cells? base a n = some cs) : cs.length = n ∧ ∀ i, i < n → ∃ c, cs[i]? = some c ∧ W.cell? (a.add i) = some c := by
  unfold World.cells? at h
  split at h
  · exact mapM_range _ n cs h
  · cases h

theorem addr_spot {W : World} {a : Addr} {c : Value} (h : W.cell? a = some c) : a.spot = none := by
  unfold World.cell? at h
  split at h
  · cases e : a.spot with
    | none => rfl
    | some s => simp [e] at h
  · cases h

section
variable {H : Type} {en : TypeId × Value → H} {P : Program} {W : World} {base : Nat} {sp : Nat → Bool} {held : Bool}

/-- A row of elements that read well, as a list of plain values. -/
theorem row_plain {t : Ty} (Q : Nat → t.den → Prop) : ∀ n, (∀ i, i < n → ∃ x, Q i x) → ∃ xs : List t.den, xs.length = n ∧ ∀ i x, xs[i]? = some x → Q i x := by
  intro n
  induction n with
  | zero => intro _; exact ⟨[], rfl, by simp⟩
  | succ n ih =>
    intro h
    obtain ⟨xs, h1, h2⟩ := ih fun i hi => h i (by omega)
    obtain ⟨y, hy⟩ := h n (by omega)
    refine ⟨xs ++ [y], by simp [h1], ?_⟩
    intro i x hx
    rw [getElem?_snoc] at hx
    split at hx
    · exact h2 i x hx
    · split at hx
      · rename_i e; cases hx; rw [e, h1]; exact hy
      · cases hx

theorem read_sound : ∀ (fuel : Nat) (T : TypeId) (cs : List Value) (d : DataW H × List MemPlace), DataW.trod en P W base sp held fuel T cs = some d →
    ∀ (n : Nat) (t : Ty), tyFits P n T t = true → ∃ x : t.den, VRs [] (memOf W) (enc t x) cs ∧ Wf t x := by
  intro fuel
  induction fuel with
  | zero => intro T cs d h; simp [DataW.trod] at h
  | succ fuel ih =>
    intro T cs d h n t hf
    -- a struct's fields, an array's elements, one behind the other
    have flds : ∀ (n : Nat) (fs : List Field) (off : Nat) (t : Ty), fieldsFit P n fs off t = true → ∀ (xs : List (DataW H × List MemPlace)),
        fs.mapM (fun f => DataW.trod en P W base sp held fuel f.type ((cs.drop f.offset).take (P.cellsOf f.type))) = some xs → ∃ x : t.den, VRs [] (memOf W) (enc t x) ((cs.drop off).take t.size) ∧ Wf t x := by
      intro n
      induction n with
      | zero => intro fs off t hf; simp [fieldsFit] at hf
      | succ n ihn =>
        intro fs off t hf xs hx
        match fs, hf, hx with
        | [], hf, _ => simp [fieldsFit] at hf
        | [f], hf, hx =>
          simp only [fieldsFit, Bool.and_eq_true] at hf
          simp only [List.mapM_cons, List.mapM_nil, Option.bind_eq_bind, Option.bind_eq_some_iff] at hx
          obtain ⟨y, hy, _⟩ := hx
          rw [beq_true hf.1.1, beq_true hf.1.2] at hy
          exact ih _ _ _ hy n t hf.2
        | f :: f2 :: r, hf, hx =>
          cases t with
          | pair a b =>
            simp only [fieldsFit, Bool.and_eq_true] at hf
            rw [List.mapM_cons] at hx
            simp only [Option.bind_eq_bind, Option.bind_eq_some_iff] at hx
            obtain ⟨y, hy, ys, hys, _⟩ := hx
            rw [beq_true hf.1.1.1, beq_true hf.1.1.2] at hy
            obtain ⟨x1, h1, w1⟩ := ih _ _ _ hy n a hf.1.2
            obtain ⟨x2, h2, w2⟩ := ihn (f2 :: r) (off + a.size) b hf.2 ys hys
            refine ⟨(x1, x2), ?_, w1, w2⟩
            simp only [enc, Ty.size]
            rw [List.take_add, List.drop_drop]
            exact h1.append h2
          | _ => simp [fieldsFit] at hf
    have elems : ∀ (n : Nat) (e : TypeId) (m i : Nat) (t : Ty), elemsFit P n e m i t = true → (∀ j, i ≤ j → j < i + m → ∃ y, DataW.trod en P W base sp held fuel e ((cs.drop (j * P.cellsOf e)).take (P.cellsOf e)) = some y) →
        ∃ x : t.den, VRs [] (memOf W) (enc t x) ((cs.drop (i * P.cellsOf e)).take t.size) ∧ Wf t x := by
      intro n
      induction n with
      | zero => intro e m i t hf; simp [elemsFit] at hf
      | succ n ihn =>
        intro e m i t hf hx
        match m, hf, hx with
        | 0, hf, _ => simp [elemsFit] at hf
        | 1, hf, hx =>
          simp only [elemsFit, Bool.and_eq_true] at hf
          obtain ⟨y, hy⟩ := hx i (Nat.le_refl _) (by omega)
          obtain ⟨x, h1, w1⟩ := ih _ _ _ hy n t hf.2
          rw [beq_true hf.1] at h1 ⊢
          exact ⟨x, h1, w1⟩
        | m + 2, hf, hx =>
          cases t with
          | pair a b =>
            simp only [elemsFit, Bool.and_eq_true] at hf
            obtain ⟨y, hy⟩ := hx i (Nat.le_refl _) (by omega)
            obtain ⟨x1, h1, w1⟩ := ih _ _ _ hy n a hf.1.2
            obtain ⟨x2, h2, w2⟩ := ihn e (m + 1) (i + 1) b hf.2 fun j hj1 hj2 => hx j (by omega) (by omega)
            refine ⟨(x1, x2), ?_, w1, w2⟩
            simp only [enc, Ty.size]
            rw [List.take_add, List.drop_drop]
            rw [beq_true hf.1.1] at h1 h2 ⊢
            rw [Nat.succ_mul] at h2
            exact h1.append h2
          | _ => simp [elemsFit] at hf
    cases n with
    | zero => simp [tyFits] at hf
    | succ n =>
      unfold tyFits at hf
      cases hu : P.underlying T with
      | none => simp [hu] at hf
      | some u =>
        rw [hu] at hf
        have single : ∀ {R : Prop}, (∀ c, cs = [c] → R) → (cs = [] → R) → ((∃ a b r, cs = a :: b :: r) → R) → R := by
          intro R h1 h2 h3
          rcases cs with _ | ⟨c, _ | ⟨c2, r⟩⟩
          · exact h2 rfl
          · exact h1 c rfl
          · exact h3 ⟨_, _, _, rfl⟩
        have hstruct : ∀ fs, u = .struct fs → ∃ x : t.den, VRs [] (memOf W) (enc t x) cs ∧ Wf t x := by
          rintro fs rfl
          simp only [Bool.and_eq_true] at hf
          have h' := h
          simp only [DataW.trod, hu] at h'
          split at h'
          · rename_i hl
            simp only [Option.map_eq_some_iff] at h'
            obtain ⟨xs, hxs, _⟩ := h'
            obtain ⟨x, h1, h2⟩ := flds n fs.toList 0 t hf.2 xs hxs
            refine ⟨x, ?_, h2⟩
            rw [List.drop_zero, List.take_of_length_le (by rw [hl, beq_true hf.1]; exact Nat.le_refl _)] at h1
            exact h1
          · cases h'
        have harr : ∀ m e, u = .array m e → ∃ x : t.den, VRs [] (memOf W) (enc t x) cs ∧ Wf t x := by
          rintro m e rfl
          simp only [Bool.and_eq_true] at hf
          have h' := h
          simp only [DataW.trod, hu] at h'
          split at h'
          · rename_i hl
            simp only [Option.map_eq_some_iff] at h'
            obtain ⟨xs, hxs, _⟩ := h'
            obtain ⟨_, hel⟩ := mapM_range _ m xs hxs
            obtain ⟨x, h1, h2⟩ := elems n e m 0 t hf.2 fun j _ hj => by
              obtain ⟨y, _, hy⟩ := hel j (by omega)
              exact ⟨y, hy⟩
            refine ⟨x, ?_, h2⟩
            rw [Nat.zero_mul, List.drop_zero, List.take_of_length_le (by rw [hl, beq_true hf.1]; exact Nat.le_refl _)] at h1
            exact h1
          · cases h'
        cases u
        case struct fs => exact hstruct fs rfl
        case array m e => exact harr m e rfl
        all_goals cases t <;> simp only at hf <;> try (cases hf; done)
        · -- bool
          refine single ?_ ?_ ?_
          · rintro c rfl
            cases c <;> simp [DataW.trod, hu] at h
            rename_i b
            exact ⟨b, .cons (.bool b) .nil, trivial⟩
          · rintro rfl; simp [DataW.trod, hu] at h
          · rintro ⟨a, b, r, rfl⟩; simp [DataW.trod, hu] at h
        · -- int
          rename_i k k'
          have hk : k = k' := by simpa using hf
          subst hk
          refine single ?_ ?_ ?_
          · rintro c rfl
            cases c <;> simp [DataW.trod, hu] at h
            rename_i k2 m
            obtain ⟨⟨rfl, hw⟩, _⟩ := h
            refine ⟨m, .cons (.int _ m (by simpa [Lit.wf] using hw)) .nil, ?_⟩
            simpa [Lit.wf, Wf] using hw
          · rintro rfl; simp [DataW.trod, hu] at h
          · rintro ⟨a, b, r, rfl⟩; simp [DataW.trod, hu] at h
        · -- float
          rename_i k k'
          have hk : k = k' := by simpa using hf
          subst hk
          refine single ?_ ?_ ?_
          · rintro c rfl
            cases c <;> simp [DataW.trod, hu] at h
            rename_i k2 m
            obtain ⟨⟨rfl, hw⟩, _⟩ := h
            have hlt : m < 2 * signOf k2 := by
              cases k2 <;> simpa [Lit.wf, signOf] using hw
            exact ⟨canon k2 m, .cons (.float _ _ m hlt rfl) .nil, canon_lt hlt, canon_canon k2 m⟩
          · rintro rfl; simp [DataW.trod, hu] at h
          · rintro ⟨a, b, r, rfl⟩; simp [DataW.trod, hu] at h
        · -- string
          refine single ?_ ?_ ?_
          · rintro c rfl
            cases c <;> simp [DataW.trod, hu] at h
            rename_i s
            have hsz : s.data.toList.length ≤ 9223372036854775807 := by have := h.1; rw [size_eq_length] at this; exact this
            exact ⟨s.data.toList, .cons (.str s _ rfl hsz) .nil, hsz⟩
          · rintro rfl; simp [DataW.trod, hu] at h
          · rintro ⟨a, b, r, rfl⟩; simp [DataW.trod, hu] at h
        · -- slice
          rename_i e t
          simp only [Bool.and_eq_true] at hf
          have hsz := beq_true hf.1.1
          have hpos : t.size ≠ 0 := fun e => by have := hf.1.2; rw [e] at this; cases this
          refine single ?_ ?_ ?_
          · rintro c rfl
            cases c <;> try (simp [DataW.trod, hu] at h; done)
            rename_i ad len cap
            cases ad with
            | none =>
              cases len <;> cases cap <;> simp [DataW.trod, hu] at h
              exact ⟨[], .cons (.vecnil t none 0) .nil, by simp [maxLen], by simp⟩
            | some ad =>
              simp only [DataW.trod, hu] at h
              split at h
              · rename_i hc
                obtain ⟨hc1, hc2, hc3⟩ := hc
                simp only [Option.bind_eq_some_iff] at h
                obtain ⟨els, hels, _⟩ := h
                obtain ⟨hl, hel⟩ := mapM_range _ len els hels
                have each : ∀ i, i < len → ∃ x : t.den, (∃ cc : List Value, cc.length = t.size ∧ (∀ j, j < t.size → ∃ c, cc[j]? = some c ∧ W.cell? ((ad.add (i * t.size)).add j) = some c) ∧ VRs [] (memOf W) (enc t x) cc) ∧ Wf t x := by
                  intro i hi
                  obtain ⟨y, _, hy⟩ := hel i hi
                  simp only [Option.bind_eq_some_iff] at hy
                  obtain ⟨cc, hcc, hy⟩ := hy
                  obtain ⟨x, h1, h2⟩ := ih e cc y hy n t hf.2
                  obtain ⟨l1, l2⟩ := cells?_some hcc
                  rw [hsz] at l1 l2
                  exact ⟨x, ⟨cc, l1, l2, h1⟩, h2⟩
                obtain ⟨xs, hxs, hq⟩ := row_plain (t := t) _ len each
                have hwf : Wf (.slice t) xs := by
                  refine ⟨by omega, fun x hx => ?_⟩
                  obtain ⟨i, hi⟩ := List.mem_iff_getElem?.1 hx
                  exact (hq i x hi).2
                by_cases hz : len = 0
                · subst hz
                  have : xs = [] := List.length_eq_zero_iff.1 hxs
                  subst this
                  exact ⟨[], .cons (.vecnil t (some ad) cap) .nil, hwf⟩
                · refine ⟨xs, .cons ?_ .nil, hwf⟩
                  -- the elements lie in one row
                  obtain ⟨⟨cc0, _, l20, _⟩, _⟩ := hq 0 _ (List.getElem?_eq_getElem (show 0 < xs.length by omega))
                  obtain ⟨c0, _, hc0⟩ := l20 0 (by omega)
                  simp only [Nat.zero_mul, Addr.add_zero'] at hc0
                  have hspot := addr_spot hc0
                  obtain ⟨b, o, spot⟩ := ad
                  subst hspot
                  have hrow : ∃ c T fz, W.heap[b]? = some (.cells c T fz) := by
                    unfold World.cell? at hc0
                    split at hc0
                    · rename_i c T fz hh; exact ⟨c, T, fz, hh⟩
                    · cases hc0
                  obtain ⟨row, TT, fz, hrow⟩ := hrow
                  refine .vec t xs b o len cap row.toList (by simp [memOf, hrow]) ⟨hxs.symm, by have : maxLen = 9223372036854775807 := rfl; omega⟩ hc2 ?_
                  intro i x hx
                  obtain ⟨⟨cc, l1, l2, hv⟩, _⟩ := hq i x hx
                  have : (row.toList.drop (o + i * t.size)).take t.size = cc := by
                    apply List.ext_getElem?
                    intro j
                    rw [List.getElem?_take]
                    split
                    · rename_i hj
                      obtain ⟨c, hc1', hc2'⟩ := l2 j hj
                      rw [hc1', List.getElem?_drop]
                      simp only [Addr.add_lit] at hc2'
                      rw [cell?_row hrow] at hc2'
                      simpa using hc2'
                    · rename_i hj
                      rw [List.getElem?_eq_none (by omega)]
                  rw [this]
                  exact hv
              · cases h
          · rintro rfl; simp [DataW.trod, hu] at h
          · rintro ⟨a, b, r, rfl⟩; simp [DataW.trod, hu] at h

/-! ### a law's arguments -/
def atFits (P : Program) (T : TypeId) : AT → Bool
  | .cell t => tyFits P 60 T t && Nat.beq t.size 1 && (match P.underlying T with | some (.struct _) => false | some (.array _ _) => false | _ => true)
  | .agg t => tyFits P 60 T t && (match P.underlying T with | some (.struct _) => true | some (.array _ _) => true | _ => false)
  | .fn _ => false
  | .ref _ => false
  | .clo _ _ => false
  | .refp _ => false
  | .nothing => false

theorem arg_sound {r : Reach} {T : TypeId} {v : Value} {d : DataW H} {ps : List MemPlace} (hok : Value.okWide P W r base T v) (h : DataW.Trod en P W 0 sp held T v d ps) (a : AT) (hf : atFits P T a = true) :
    ∃ x : a.den, VR [] (memOf W) (encA a x) v ∧ WfA a x := by
  obtain ⟨fuel, h⟩ := h
  cases a with
  | fn f => simp [atFits] at hf
  | ref t => simp [atFits] at hf
  | clo f t => simp [atFits] at hf
  | refp t => simp [atFits] at hf
  | nothing => simp [atFits] at hf
  | agg t =>
    simp only [atFits, Bool.and_eq_true] at hf
    obtain ⟨x, h1, h2⟩ := read_sound fuel T _ _ h 60 t hf.1
    refine ⟨x, ?_, h2⟩
    have : ∃ cs, v = .agg cs := by
      unfold Value.okWide at hok
      cases hu : P.underlying T with
      | none => rw [hu] at hf; exact absurd hf.2 (by simp)
      | some u =>
        rw [hu] at hf hok
        cases u <;> simp only at hf hok <;> try (cases hf.2; done)
        · obtain ⟨cs, e, _⟩ := hok; exact ⟨cs, e⟩
        · obtain ⟨cs, e, _⟩ := hok; exact ⟨cs, e⟩
    obtain ⟨cs, rfl⟩ := this
    exact .agg _ cs h1
  | cell t =>
    simp only [atFits, Bool.and_eq_true] at hf
    obtain ⟨x, h1, h2⟩ := read_sound fuel T _ _ h 60 t hf.1.1
    refine ⟨x, ?_, h2⟩
    have hs := beq_true hf.1.2
    have hl := h1.length
    rw [enc_length, hs] at hl
    have hv : v.cells = #[v] := by
      cases v with
      | agg cs =>
        exfalso
        unfold Value.okWide at hok
        have ht := hf.1.1
        unfold tyFits at ht
        cases hu : P.underlying T with
        | none => rw [hu] at ht; simp at ht
        | some u =>
          rw [hu] at ht hok hf
          cases u <;> cases t <;> simp only at ht hok hf <;> first | (cases ht; done) | (cases hf.2; done) | (simp [Cell.okWide, Cell.ok, hu] at hok; done)
      | _ => rfl
    rw [hv] at h1
    simp only [encA]
    cases e : enc t x with
    | nil => have := enc_length t x; rw [e, hs] at this; simp at this
    | cons u us =>
      rw [e] at h1
      cases h1 with
      | cons p q => exact p

/-- A program without tables. -/
theorem gamOk_none {P : Program} (h1 : P.globalNamed "internal/strconv.uint64pow10" = none) (h2 : usesIndex P = false) (M : Mem) : GamOk P M := by
  refine ⟨fun k hk => ?_, fun k hu hk => ?_⟩
  · rw [h1] at hk; cases hk
  · rw [h2] at hu; cases hu

/-- Of a law it is asked that it answers true. -/
theorem law_calls {k : FuncId} {fn : Func} {S : Sm} (hS : FnOk P k S) (hf : P.funcs[k]? = some fn) (hb : fn.body.isSome = true) (hn : (fn.name == "runtime.NumGoroutine") = false) {args : List V} {cargs : List Value}
    (h : S args [] (fun v hs => v = .bool true)) (hv : VRs [] (memOf W) args cargs) (hG : GamOk P (memOf W)) : Calls P k cargs.toArray W fun e W' => e = .returned (.bool true) ∧ Below W.heap.size W W' := by
  obtain ⟨v, rfl, _, h3⟩ := hS args _ h
  rcases h3 W (memOf W) cargs hv (memOf_ok W) hG with ⟨u, w', h1, _⟩ | ⟨_, h2⟩
  · exfalso
    have hn' : ¬ fn.name = "runtime.NumGoroutine" := by simpa using hn
    have hb' : ¬ fn.body = none := by intro e; rw [e] at hb; cases hb
    simp [callFunc, hf, hn', hb'] at h1
  · refine h2.mono ?_
    rintro e w' ⟨u, rfl, M', k1, k2, k3⟩
    cases k1
    exact ⟨rfl, ⟨k3.os, k3.tape, k3.output, k3.size, k3.keep⟩⟩
end
end Go.Ev

/- Functions that Go's library leaves without a body. -/
set_option linter.unusedVariables false
set_option linter.unusedSimpArgs false
namespace Go.Ev

theorem fnOk_ext {P : Program} {k : FuncId} {fn : Func} {e : Array Value → Sem Value} {S : Sm} (hf : P.funcs[k]? = some fn) (hname : (fn.name == "runtime.NumGoroutine") = false)
    (hb : fn.body.isNone = true) (hn : Extern.findNext fn = none) (he : Extern.find fn = some e)
    (h : ∀ args K, S args [] K → ∃ v, K v [] ∧ (∀ K' : V → Heap → Prop, K' v [] → S args [] K') ∧
      ∀ (w : World) (M : Mem) (cargs : List Value), VRs [] M args cargs → ∃ val w', (e cargs.toArray).run P w = .ok val w' ∧ Drawn w w' ∧ VR [] M v val) : FnOk P k S := by
  intro args K hk
  obtain ⟨v, h1, h2, h3⟩ := h args K hk
  refine ⟨v, h1, h2, fun w M cargs hv hm hG => ?_⟩
  obtain ⟨val, w', k1, k2, k3⟩ := h3 w M cargs hv
  refine .inl ⟨val, w', ?_, M, k3, ?_, ?_⟩
  · rw [run_callFunc_extern hf hname hb hn he, k1]; rfl
  · intro b cs hb'
    obtain ⟨c, T, fz, p1, p2⟩ := hm b cs hb'
    exact ⟨c, T, fz, by rw [k2.heap]; exact p1, p2⟩
  · exact ⟨by rw [k2.heap]; exact Nat.le_refl _, fun b _ => by rw [k2.heap], fun _ _ h => h, fun _ _ h => .inl h, k2.os, k2.tape, k2.output⟩

/-- math.sqrt. -/
def sSqrt : Sm := fun args hs K =>
  match args with
  | [.float .f64 x] => K (.float .f64 (fsqrt .f64 x)) hs
  | _ => False

theorem ok_sqrt {P : Program} {k : FuncId} {fn : Func} (hf : P.funcs[k]? = some fn) (hname : (fn.name == "runtime.NumGoroutine") = false)
    (hb : fn.body.isNone = true) (hn : Extern.findNext fn = none) (he : Extern.find fn = some Extern.MathSqrt.sqrt) : FnOk P k sSqrt := by
  refine fnOk_ext hf hname hb hn he ?_
  intro args K h
  unfold sSqrt at h
  split at h
  · rename_i x
    refine ⟨_, h, fun K' h' => h', ?_⟩
    intro w M cargs hv
    cases hv with
    | cons a b =>
      cases b
      cases a with
      | float _ _ b' h1 h2 =>
        obtain ⟨r, w', k1, k2, k3, k4⟩ := floatRes (P := P) (w := w) .f64 b' b' (FloatKind.f64.format.sqrt b') (fun r hr => ⟨nan_sqrt hr, by rw [← width_eq]; exact FloatKind.f64.format.sqrt_lt hr⟩)
        refine ⟨_, w', ?_, k2, .float _ _ r k4 ?_⟩
        · exact k1
        · rw [h2, fsqrt, sqrt_canon]; exact k3.symm
  · exact h.elim

end Go.Ev

/- Loops by measure: one round at a time. -/
set_option linter.unusedVariables false
set_option linter.unusedSimpArgs false
namespace Go.Ev

def kSeq (C : Ctx) (b : Code) (K : Ex → Fr → Heap → Prop) : Ex → Fr → Heap → Prop := fun e fr H =>
  match e with
  | .normal => wpE C b fr H K
  | .ret => K .ret fr H
  | .exit id => K (.exit id) fr H
def kBlock (id : Nat) (K : Ex → Fr → Heap → Prop) : Ex → Fr → Heap → Prop := fun e fr H =>
  match e with
  | .normal => K .normal fr H
  | .ret => K .ret fr H
  | .exit id' => bif Nat.beq id' id then K .normal fr H else K (.exit id') fr H
def kFn (C : Ctx) (fn : Func) (hs : Heap) (K : V → Heap → Prop) : Ex → Fr → Heap → Prop := fun e fr H =>
  match e with
  | .exit _ => False
  | _ => bif Nat.ble hs.length H.length then
      resV C fr H fn.results.toList fun vs => outV hs.length H vs K
    else False

/-- The loop of a first region's number, in a code: its body, and what comes behind it. -/
def findLoop (C : Ctx) (n : Nat) : Code → (Ex → Fr → Heap → Prop) → Option (Code × (Ex → Fr → Heap → Prop))
  | .seq a b, K => match findLoop C n a (kSeq C b K) with
    | some r => some r
    | none => findLoop C n b K
  | .block id b, K => findLoop C n b (kBlock id K)
  | .loop b, K => bif Nat.beq (firstRegion b) n then some (b, K) else none
  | .cond c a b, K => match findLoop C n a K with
    | some r => some r
    | none => findLoop C n b K
  | _, _ => none

/-- The loop's body in a code, and what comes behind it. -/
def lbC (C : Ctx) (n : Nat) (c : Code) : Code := ((findLoop C n c fun _ _ _ => True).getD (.skip, fun _ _ _ => True)).1
def lkC (C : Ctx) (n : Nat) (c : Code) (K : Ex → Fr → Heap → Prop) : Ex → Fr → Heap → Prop := ((findLoop C n c K).getD (.skip, K)).2
def bodyOf (fn : Func) : Code := fn.body.getD .skip
def lb (C : Ctx) (n : Nat) (fn : Func) : Code := lbC C n (bodyOf fn)
def lk (C : Ctx) (n : Nat) (fn : Func) (hs : Heap) (K : V → Heap → Prop) : Ex → Fr → Heap → Prop := lkC C n (bodyOf fn) (kFn C fn hs K)

def kRound (a : Ann) (Kn : Fr → Heap → Prop) (K : Ex → Fr → Heap → Prop) : Ex → Fr → Heap → Prop := fun e fr' H' =>
  match e with
  | .normal => Kn (normFr a fr' H') (normH a fr' H')
  | .ret => K .ret fr' H'
  | .exit id => K (.exit id) fr' H'
def round (C : Ctx) (a : Ann) (body : Code) (fr : Fr) (H : Heap) (Kn : Fr → Heap → Prop) (K : Ex → Fr → Heap → Prop) : Prop :=
  wpE C body fr H (kRound a Kn K)

/-- A loop within loops: its body, and what comes behind it. -/
def pathB (C : Ctx) : List Nat → Code → Code
  | [], c => c
  | n :: r, c => pathB C r (lbC C n c)
def pathK (C : Ctx) : List (Nat × Ann × (Fr → Heap → Prop)) → Nat → Code → (Ex → Fr → Heap → Prop) → Ex → Fr → Heap → Prop
  | [], n, c, K => lkC C n c K
  | p :: r, n, c, K => pathK C r n (lbC C p.1 c) (kRound p.2.1 p.2.2 (lkC C p.1 c K))

/-- The loop, as it stands in a function's equation. -/
def LoopE (C : Ctx) (a : Ann) (body : Code) (fr : Fr) (H : Heap) (K : Ex → Fr → Heap → Prop) : Prop := ∃ n, loopN (wpE C body) (some a) n fr H K

theorem loop_run {C : Ctx} {a : Ann} {body : Code} {K : Ex → Fr → Heap → Prop} {σ : Type} (fr : σ → Fr) (H : σ → Heap) (I : σ → Prop) (μ : σ → Nat)
    (h : ∀ s, I s → ∀ Kn : Fr → Heap → Prop, (∀ s', I s' → μ s' < μ s → Kn (fr s') (H s')) → round C a body (fr s) (H s) Kn K) (s : σ) (hs : I s) : LoopE C a body (fr s) (H s) K := by
  have key : ∀ n s, I s → μ s < n → loopN (wpE C body) (some a) n (fr s) (H s) K := by
    intro n
    induction n with
    | zero => intro s _ hn; omega
    | succ n ih =>
      intro s hi hn
      exact h s hi (fun fr' H' => loopN (wpE C body) (some a) n fr' H' K) fun s' hi' hm => ih s' hi' (by omega)
  exact ⟨μ s + 1, key _ s hs (Nat.lt_succ_self _)⟩

end Go.Ev

/- Results that a call hands over to its caller. -/
set_option linter.unusedVariables false
set_option linter.unusedSimpArgs false
namespace Go.Ev

section
variable {g : List G} {M : Mem} {w w0 : World} {M0 : Mem} {own0 : Z} {H : Heap}
end

section
variable {P : Program} {C : Ctx}
end
end Go.Ev

/- Calls that act on some of the caller's things, and calls that hand over new ones. -/
set_option linter.unusedVariables false
set_option linter.unusedSimpArgs false
namespace Go.Ev

/-! ### values with slices that are handed over -/
inductive Po where
  | imm (t : Ty)
  | own (e : Ty)
  | deep (e : Ty)
@[reducible] def Po.den : Po → Type
  | .imm t => t.den
  | .own e => List e.den
  | .deep e => List e.den
@[reducible] def PD : List Po → Type
  | [] => Unit
  | p :: r => p.den × PD r
inductive RT where
  | cell (p : Po)
  | agg (ps : List Po)
@[reducible] def RT.den : RT → Type
  | .cell p => p.den
  | .agg ps => PD ps
section
variable {g1 g' : List G} {M1 Mn : Mem} {p : Ty → Bool} {n : Nat}
end

/-- A thing that is handed over. -/
def Given (p : Ty → Bool) (o : Ob) : Prop := ∃ (e : Ty) (xs : List e.den), (o = .sl 0 e xs ∧ p e = true) ∨ o = .dp 0 0 e xs
theorem ObOk.given {p : Ty → Bool} {g1 g' : List G} {M1 Mn : Mem} {w : World} (hp : ∀ t, p t = true → ∀ (x : t.den) (cs : List Value), VRs g1 M1 (enc t x) cs → VRs g' Mn (enc t x) cs) (hn : ∀ b, M1 b = none → Mn b = none) {o : Ob} (ho : Given p o) {x : G} (h : ObOk g1 M1 w o x) : ObOk g' Mn w o x := by
  obtain ⟨e, xs, ⟨rfl, hpe⟩ | rfl⟩ := ho
  rotate_left
  · cases x <;> simp only [ObOk] at h ⊢
    exact ⟨h.1, h.2.1, h.2.2.1, fun b hb => hn b (h.2.2.2.1 b hb), h.2.2.2.2⟩
  cases x <;> simp only [ObOk] at h ⊢
  obtain ⟨h1, h2, h3, h4⟩ := h
  refine ⟨h1, h2, h3, h4.imp id ?_⟩
  rintro ⟨b, cap, c, T, fz, rfl, k2, k3, k4, k5, k6, k7⟩
  exact ⟨b, cap, c, T, fz, rfl, k2, k3, k4, fun i x hx => hp e hpe _ _ (k5 i x hx), k6, hn b k7⟩

/-! ### calls that write their caller's slices in place -/
/-- A thing, and as it is handed to a call. -/
def Zed (o0 o : Ob) : Prop := (∃ (ver : Nat) (e : Ty) (xs : List e.den), o0 = .sl ver e xs ∧ o = .sl 0 e xs) ∨ (∃ (ver iv : Nat) (e : Ty) (xs : List e.den), o0 = .dp ver iv e xs ∧ o = .dp 0 0 e xs)
theorem Zed.given {o0 o : Ob} (h : Zed o0 o) : Given (fun _ => true) o := by
  rcases h with ⟨ver, e, xs, _, h⟩ | ⟨ver, iv, e, xs, _, h⟩
  · exact ⟨e, xs, .inl ⟨h, rfl⟩⟩
  · exact ⟨e, xs, .inr h⟩
/-! ### slices.Clone: it asks for nil, what the evaluator's lists do not tell -/
/-! ### what is handed over may be looked at alone -/
section
variable {g : List G} {M : Mem} {w : World} {H : Heap}
end
mutual
theorem VR.immut_nil {M : Mem} : ∀ {v : V} {c : Value}, VR [] M v c → immut v = true
  | _, _, .undef v => rfl
  | _, _, .bool b => rfl
  | _, _, .int k n h => rfl
  | _, _, .nanb n h h' => rfl
  | _, _, .empty b z ad cap h h' => rfl
  | _, _, .dob id ver ver' iv sz bs ih h val h1 h2 h3 h4 => by cases h1
  | _, _, .dep id ver ver' iv sz j off b o bs ih h h1 h2 h3 h4 => by cases h1
  | _, _, .inn id iv iv' ver j off sz bs ih h val h1 h2 h3 h4 => by cases h1
  | _, _, .float k b b' h h' => rfl
  | _, _, .str s l h h' => rfl
  | _, _, .agg vs cs h => by simp only [immut]; exact VRs.immut_nil h
  | _, _, .vecnil t ad cap => rfl
  | _, _, .vec t xs b off n cap cs h1 h2 h3 h4 => rfl
  | _, _, .nils => rfl
  | _, _, .nilp => rfl
  | _, _, .ref cells b base off o cs h1 h2 h3 => by simp only [immut]; exact VRs.immut_nil h2
  | _, _, .ptr id off b h => by cases h
  | _, _, .obj id ver ver' sz h val h1 h2 h3 h4 => by cases h1
  | _, _, .eptr id ver ver' sz j off b o h h1 h2 h3 h4 => by cases h1
  | _, _, .bptr id b buf h => by cases h
  | _, _, .psl id b t n h hn => by cases h
  | _, _, .fn f vs cs h => by simp only [immut]; exact VRs.immut_nil h
  | _, _, .tuple vs cs h => by simp only [immut]; exact VRs.immut_nil h
theorem VRs.immut_nil {M : Mem} : ∀ {vs : List V} {cs : List Value}, VRs [] M vs cs → immuts vs = true
  | _, _, .nil => rfl
  | _, _, .cons h t => by simp only [immuts, VR.immut_nil h, VRs.immut_nil t, Bool.and_self]
end
/-! ### a slice within a slice, written in place -/
end Go.Ev

/- A call to which a thing is given away. -/
set_option linter.unusedVariables false
set_option linter.unusedSimpArgs false
namespace Go.Ev

/-- What the caller gives away may be written, and has no name any more. -/
def Z.all (H : Heap) (g : List G) : Z := ⟨Own H g, fun _ _ => False, 0, fun _ _ h => h.elim, fun _ _ h => h.elim⟩

section
variable {P : Program} {C : Ctx}
theorem HR.kill {H : Heap} {g : List G} {M : Mem} {w : World} (hr : HR H g M w) (L : List Nat) : HR (kill H L) g M w := by
  refine ⟨by rw [kill_len]; exact hr.len, ?_, ?_, hr.mem⟩
  · intro id o x h1 h2
    rcases kill_get h1 with ⟨_, rfl⟩ | ⟨_, k⟩
    · simp only [ObOk]
    · exact hr.ob id o x k h2
  · intro id id' o o' x x' b h1 h2 h3 h4 h5 h6
    rcases kill_get h1 with ⟨_, rfl⟩ | ⟨_, k⟩
    · simp [ownB] at h5
    · rcases kill_get h3 with ⟨_, rfl⟩ | ⟨_, k'⟩
      · simp [ownB] at h6
      · exact hr.apart id id' o o' x x' b k h2 k' h4 h5 h6

end
end Go.Ev

/- Small laws that the proofs of functions use. -/
set_option linter.unusedVariables false
namespace Go.Ev

theorem feq_self (k : FloatKind) (x : Nat) : feq k x x = !nan k x := by
  unfold feq Ieee.Format.order
  cases h : nan k x with
  | true => obtain ⟨s, t, e⟩ := read_nan h; rw [e]; rfl
  | false =>
    have := read_not_nan h
    cases e : k.format.read x with
    | nan s t => exact absurd e (this s t)
    | infinity s => simp [Ieee.Datum.order]
    | number s m p => simp [Ieee.Datum.order]

theorem wrap_of {k : IntKind} {n : Int} (h1 : k.min ≤ n) (h2 : n ≤ k.max) : k.wrap n = n := by
  cases k
  · exact IntWalk.i8_in n ⟨h1, h2⟩
  · exact IntWalk.i16_in n ⟨h1, h2⟩
  · exact IntWalk.i32_in n ⟨h1, h2⟩
  · exact IntWalk.i64_in n ⟨h1, h2⟩
  · exact IntWalk.u8_in n ⟨h1, h2⟩
  · exact IntWalk.u16_in n ⟨h1, h2⟩
  · exact IntWalk.u32_in n ⟨h1, h2⟩
  · exact IntWalk.u64_in n ⟨h1, h2⟩
theorem i64_of {n : Int} (h1 : -9223372036854775808 ≤ n) (h2 : n ≤ 9223372036854775807) : IntKind.i64.wrap n = n := wrap_of h1 h2
theorem d_lt {i n : Nat} (h : i < n) : decide ((i : Int) < (n : Int)) = true := decide_eq_true (by omega)
theorem d_nlt {i n : Nat} (h : ¬ i < n) : decide ((i : Int) < (n : Int)) = false := decide_eq_false (by omega)
theorem d_0 (i : Nat) : decide (0 ≤ (i : Int)) = true := decide_eq_true (by omega)
theorem d_t {p : Prop} [Decidable p] (h : p) : decide p = true := decide_eq_true h
theorem d_f {p : Prop} [Decidable p] (h : ¬ p) : decide p = false := decide_eq_false h
theorem blt_t {i n : Nat} (h : i < n) : Nat.blt i n = true := by rw [Nat.blt_eq]; exact h
theorem get_lt {α : Type} {xs : List α} {i : Nat} (h : i < xs.length) : xs[i]? = some (xs[i]'h) := List.getElem?_eq_getElem h
theorem take_one {α : Type} {xs : List α} {i : Nat} (h : i < xs.length) : xs.take (i + 1) = xs.take i ++ [xs[i]'h] := by
  rw [List.take_add_one, get_lt h]; rfl
/-- A function whose guard never holds. -/
theorem fnOk_never {P : Program} {k : FuncId} {l : List AT} {gd : ADen l → Bool} {f : ADen l → V} (h : ∀ x : ADen l, gd x = false) : FnOk P k (semG l gd f) := by
  intro args K hk
  simp only [semG] at hk
  split at hk
  · rename_i x _
    simp only [h x, cond_false] at hk
  · exact hk.elim
end Go.Ev

/- What all laws of the seat share: types and the functions of single numbers. -/
set_option linter.unusedVariables false
set_option linter.unusedSimpArgs false
set_option maxRecDepth 100000
namespace Go.Proofs.Ytfhpmcdbfebflaa
open Go.Ev
noncomputable abbrev tyT : TypeId → Ty := elemTy Try.prog
abbrev tF : Ty := .float .f32
abbrev tV : Ty := .pair tF (.pair tF tF)
abbrev tB : Ty := .slice (.int .u8)
theorem mixed : Try.prog.follows .mixedOrders = true := by kernel_rfl

abbrev s_math_sqrt : Sm := sSqrt
theorem ok_math_sqrt : FnOk Try.prog 172 sSqrt := ok_sqrt Try.func172 (by kernel_rfl) (by kernel_rfl) (by kernel_rfl) (by kernel_rfl)

/-! impl.isNaN -/
noncomputable def c_impl_isNaN : Ctx := mkC Try.prog tyT [] [] [] 6 (fun _ => none) 0
theorem w_impl_isNaN (x : Nat) (K : V → Heap → Prop) : wpFn c_impl_isNaN Try.f101 (encAs [.cell tF] (x, ())) [] K =
  K (.bool (!feq FloatKind.f32 x x)) [] := by kernel_rfl
noncomputable def s_impl_isNaN : Sm := semT [.cell tF] fun x => match x with | (x, _) => .bool (nan .f32 x)
theorem ok_impl_isNaN : FnOk Try.prog 101 s_impl_isNaN := fnOk_typed (fnOk_runC (C := c_impl_isNaN) rfl mixed .nil .nil .nil Try.func101 (by kernel_rfl)) fun (x : ((Nat) × Unit)) wf K h => by
  obtain ⟨x, ⟨⟩⟩ := x
  replace h : K (.bool (nan .f32 x)) [] := h
  rw [w_impl_isNaN x K]
  rw [feq_self, Bool.not_not]
  exact h

/-! spec.l01Bits -/
/-! spec.l01Same -/
abbrev V3 := Nat × Nat × Nat
/-! spec.l01VSame -/
/-! impl.SameNumber -/
end Go.Proofs.Ytfhpmcdbfebflaa

/- The source of bytes from which the laws draw. -/
set_option linter.unusedVariables false
set_option linter.unusedSimpArgs false
set_option maxRecDepth 100000
namespace Go.Proofs.Ytfhpmcdbfebflaa
open Go.Ev

abbrev SrcD := List Int × Int × Int

/-! spec.l00From -/
def srcIn (L : Nat) (s : SrcD) : Bool := decide (0 ≤ s.2.1) && decide (s.2.1 ≤ (L : Int) * 1152921504606846976)
def byteOf (s : SrcD) : Int := bif decide (s.2.1 < (s.1.length : Int)) then (s.1[s.2.1.toNat]?).getD 0 else 0
def seedOf (s : SrcD) : Int := IntKind.u64.wrap (IntKind.u64.wrap (IntKind.u64.wrap (s.2.2 * 6364136223846793005) + IntKind.u64.wrap (byteOf s)) + 1442695040888963407)
--B nextS SrcD → SrcD
def nextS (s : SrcD) : SrcD := (s.1, s.2.1 + 1, seedOf s)
def nextV (s : SrcD) : Int := bif decide (s.2.1 + 1 ≤ (s.1.length : Int)) then byteOf s
  else IntKind.i64.wrap (IntKind.u64.wrap ((BitVec.toNat (BitVec.ofInt (IntKind.bits IntKind.u64) (Int.fdiv (seedOf s) (2 ^ min (Int.toNat 40) (IntKind.bits IntKind.u64))) &&& BitVec.ofInt (IntKind.bits IntKind.u64) 255)) : Int))
theorem srcIn_iff {L : Nat} {s : SrcD} : srcIn L s = true ↔ 0 ≤ s.2.1 ∧ s.2.1 ≤ (L : Int) * 1152921504606846976 := by
  simp [srcIn]
def bytes (xs : List Int) : Prop := ∀ b ∈ xs, 0 ≤ b ∧ b ≤ 255
theorem bytes_of {xs : List Int} (h : Wf tB xs) : bytes xs := fun b hb => h.2 b hb
/-! (*spec.l00Src).next -/
/-! a source of which at most L times 2^60 draws were made -/
structure SrcAt (L : Nat) (s : SrcD) : Prop where
  b : bytes s.1
  lo : 0 ≤ s.2.1
  hi : s.2.1 ≤ (L : Int) * 1152921504606846976
theorem SrcAt.ok {L : Nat} {s : SrcD} (h : SrcAt L s) : srcIn L s = true := srcIn_iff.2 ⟨h.lo, h.hi⟩
theorem SrcAt.of {L : Nat} {s : SrcD} (hb : bytes s.1) (h : srcIn L s = true) : SrcAt L s := ⟨hb, (srcIn_iff.1 h).1, (srcIn_iff.1 h).2⟩

/-- A draw of one number below n. -/
def pickV (s : SrcD) (n : Int) : Int := bif decide (n ≤ 1) then 0 else bif decide (200 < n) then (nextV s * 256 + nextV (nextS s)).tmod n else (nextV s).tmod n
--B pickS SrcD → Int → SrcD
def pickS (s : SrcD) (n : Int) : SrcD := bif decide (n ≤ 1) then s else bif decide (200 < n) then nextS (nextS s) else nextS s
/-! (*spec.l00Src).pick -/
/-! (*spec.l00Src).one -/
/-! (*spec.l00Src).among -/
end Go.Proofs.Ytfhpmcdbfebflaa

/- Where something is in a list. -/
set_option linter.unusedVariables false
set_option linter.unusedSimpArgs false
set_option maxRecDepth 100000
namespace Go.Proofs.Ytfhpmcdbfebflaa
open Go.Ev

--B idxF {α : Type} → (α → Bool) → List α → Int
def idxF {α : Type} (p : α → Bool) (xs : List α) : Int := bif xs.any p then (xs.findIdx p : Int) else -1
theorem idxF_none {α : Type} {p : α → Bool} {xs : List α} (h : xs.any p = false) : idxF p xs = -1 := by unfold idxF; rw [h]; rfl
theorem idxF_hit {α : Type} {p : α → Bool} {xs : List α} {i : Nat} (hi : i < xs.length) (h : (xs.take i).any p = false) (hp : p (xs[i]'hi) = true) : idxF p xs = i := by
  have ha : xs.any p = true := List.any_eq_true.2 ⟨_, List.getElem_mem hi, hp⟩
  unfold idxF
  rw [ha]
  simp only [cond_true]
  have : xs.findIdx p = i := by
    rw [List.findIdx_eq hi]
    refine ⟨hp, fun j hj => ?_⟩
    have h1 : xs[j]'(by omega) ∈ xs.take i := List.mem_iff_getElem?.2 ⟨j, by rw [List.getElem?_take, if_pos hj]; exact List.getElem?_eq_getElem (by omega)⟩
    have := List.any_eq_false.1 h _ h1
    simpa using this
  rw [this]
theorem any_snoc {α : Type} {f : α → Bool} {xs : List α} {i : Nat} (hi : i < xs.length) (h : (xs.take i).any f = false) (hp : f (xs[i]'hi) = false) : (xs.take (i + 1)).any f = false := by
  rw [take_one hi, List.any_append, h]
  simp [hp]
theorem idxF_ge {α : Type} (p : α → Bool) (xs : List α) : decide (idxF p xs ≥ 0) = xs.any p := by
  unfold idxF
  cases xs.any p with
  | true => simp only [cond_true]; exact decide_eq_true (by omega)
  | false => simp only [cond_false]; exact decide_eq_false (by omega)


end Go.Proofs.Ytfhpmcdbfebflaa

/- Vectors and lists: equality, copies, sizes. -/
set_option linter.unusedVariables false
set_option linter.unusedSimpArgs false
set_option maxRecDepth 100000
namespace Go.Proofs.Ytfhpmcdbfebflaa
open Go.Ev
abbrev tI : Ty := .int .i64

/-! sizes -/
--B szV Int → Nat → Int
def szV (n : Int) (w : Nat) : Int := bif decide (n - (w : Int) < 0) then (-1) else n - w
--B wList {α : Type} → (α → Nat) → List α → Nat
def wList {α : Type} (w : α → Nat) (xs : List α) : Nat := xs.length + (xs.map w).sum
/-! slices.EqualFunc[[]float32,[]float32,float32,float32] -/
/-! impl.sameList -/
/-! (impl.Vector).numbers -/
/-! impl.SameVector -/
/-! spec.SameVector -/
end Go.Proofs.Ytfhpmcdbfebflaa

/- Shapes: when they are valid. -/
set_option linter.unusedVariables false
set_option linter.unusedSimpArgs false
set_option maxRecDepth 100000
namespace Go.Proofs.Ytfhpmcdbfebflaa
open Go.Ev
abbrev tN : Ty := .pair tI (.pair tI (.pair tI (.slice tF)))
abbrev NodeD := Int × Int × Int × List Nat
abbrev tR : Ty := .pair tI (.pair tI (.pair .bool tI))

/-! plain -/
--B inR Int → Int → Int → Bool
def inR (n lo hi : Int) : Bool := decide (n ≥ lo) && decide (n ≤ hi)
theorem inR_iff {n lo hi : Int} : inR n lo hi = true ↔ lo ≤ n ∧ n ≤ hi := by simp [inR]
def kindL : List (Int × Int × Bool × Int) := [(1, 0, false, 1), (3, 0, false, 1), (2, 0, false, 1), (2, 0, false, 1), (4, 0, false, 0), (0, 2, false, 0), (0, 2, false, 0), (0, 2, false, 0), (1, 2, false, 2), (3, 1, false, 0), (1, 1, false, 2), (3, 1, false, 2), (1, 1, true, 0), (0, 1, true, 0), (1, 1, true, 2), (1, 1, false, 0), (1, 1, false, 1)]
def isK (k : Int) : Bool := inR k 0 16
--B kindN Int → Int
--B kindC Int → Int
--B kindA Int → Bool
--B kindS Int → Int
def kindV (k : Int) : Int × Int × Bool × Int := bif isK k then (kindL[k.toNat]?).getD (0, 0, false, 0) else (0, 0, false, 0)
def kindN (k : Int) : Int := (kindV k).1
def kindC (k : Int) : Int := (kindV k).2.1
def kindA (k : Int) : Bool := (kindV k).2.2.1
def kindS (k : Int) : Int := (kindV k).2.2.2
theorem kinds {k : Int} (h : isK k = true) : k = 0 ∨ k = 1 ∨ k = 2 ∨ k = 3 ∨ k = 4 ∨ k = 5 ∨ k = 6 ∨ k = 7 ∨ k = 8 ∨ k = 9 ∨ k = 10 ∨ k = 11 ∨ k = 12 ∨ k = 13 ∨ k = 14 ∨ k = 15 ∨ k = 16 := by
  have := inR_iff.1 h
  omega
theorem kindV_no {k : Int} (h : isK k = false) : kindV k = (0, 0, false, 0) := by unfold kindV; rw [h]; rfl
theorem isK_ne {k : Int} (h : isK k = false) {j : Int} (hj : 0 ≤ j ∧ j ≤ 16) : (k == j) = false := by
  refine beq_eq_false_iff_ne.2 fun e => ?_
  subst e
  rw [show isK k = true from inR_iff.2 hj] at h
  cases h

def finN (x : Nat) : Bool := feq FloatKind.f32 (fsub FloatKind.f32 x x) 0
def sgnB (s : Int) (x : Nat) : Bool := (s == 1 && flt FloatKind.f32 x 0) || (s == 2 && fle FloatKind.f32 x 0)
--B numsB Int → List Nat → Bool
def numsB (k : Int) (xs : List Nat) : Bool := isK k && ((xs.length : Int) == kindN k && (!xs.any (fun x => !finN x) && !xs.any (fun x => sgnB (kindS k) x)))
--B axB Int → Int → Int → Bool
def axB (k a b : Int) : Bool := (decide (kindC k > 0) || a == 0) && (kindC k == 2 || (b == 0 || (kindA k && inR b 0 2)))
theorem kindC_range (k : Int) : 0 ≤ kindC k ∧ kindC k ≤ 2 := by
  cases hk : isK k with
  | true => rcases kinds hk with e | e | e | e | e | e | e | e | e | e | e | e | e | e | e | e | e <;> subst e <;> decide
  | false => simp only [kindC, kindV_no hk]; decide
--B kids Int → Int → Int → List Int
def kids (k a b : Int) : List Int := [a, b].take (kindC k).toNat

/-! plain: uses of nodes -/
abbrev kidsN (n : NodeD) : List Int := kids n.1 n.2.1 n.2.2.1
--B nodeB Int → NodeD → Bool
def nodeB (i : Int) (n : NodeD) : Bool := numsB n.1 n.2.2.2 && (axB n.1 n.2.1 n.2.2.1 && (kidsN n).all (fun c => inR c 0 (i - 1)))
def inc1 (u : List Int) (c : Int) : List Int := u.set c.toNat (((u[c.toNat]?).getD 0) + 1)
def incs (u cs : List Int) : List Int := cs.foldl inc1 u
def usesOf (ns : List NodeD) (u : List Int) : List Int := ns.foldl (fun u n => incs u (kidsN n)) u
def nodesB (ns : List NodeD) : Bool := (List.range ns.length).all fun i => match ns[i]? with | some n => nodeB i n | none => true
def usesAt (ns : List NodeD) (i : Nat) : List Int := usesOf (ns.take i) (List.replicate ns.length 0)
--B validS List NodeD → Bool
def validS (ns : List NodeD) : Bool := inR ns.length 1 16 && (nodesB ns && ((usesAt ns ns.length).take (ns.length - 1)).all (fun x => x == 1))
def OkUp (ns : List NodeD) (i : Nat) : Prop := ∀ (j : Nat) (n : NodeD), j < i → ns[j]? = some n → nodeB j n = true
theorem okUp_all {ns : List NodeD} (h : OkUp ns ns.length) : nodesB ns = true := by
  refine List.all_eq_true.2 fun j hj => ?_
  cases e : ns[j]? with
  | none => rfl
  | some n => exact h j n (lt_of_get e) e
theorem valid_no {ns : List NodeD} {i : Nat} (hi : i < ns.length) (h : nodeB i (ns[i]'hi) = false) : validS ns = false := by
  have : nodesB ns = false := by
    refine List.all_eq_false.2 ⟨i, by simpa using hi, ?_⟩
    rw [get_lt hi]
    simp [h]
  unfold validS
  rw [this, Bool.false_and, Bool.and_false]
theorem okUp_succ {ns : List NodeD} {i : Nat} (hi : i < ns.length) (h : OkUp ns i) (hn : nodeB i (ns[i]'hi) = true) : OkUp ns (i + 1) := by
  intro j n hj e
  by_cases h' : j < i
  · exact h j n h' e
  · have : j = i := by omega
    subst this
    rw [get_lt hi] at e
    cases e
    exact hn
theorem usesAt_succ {ns : List NodeD} {i : Nat} (hi : i < ns.length) : usesAt ns (i + 1) = incs (usesAt ns i) (kidsN (ns[i]'hi)) := by
  unfold usesAt usesOf
  rw [take_one hi, List.foldl_append]
  rfl
theorem incs_take (u : List Int) {cs : List Int} {j : Nat} (hj : j < cs.length) : incs u (cs.take (j + 1)) = inc1 (incs u (cs.take j)) (cs[j]'hj) := by
  unfold incs
  rw [take_one hj, List.foldl_append]
  rfl
theorem inc1_facts {u : List Int} {c : Int} {B : Int} {i : Nat} (hc : 0 ≤ c ∧ c < i) (hu : ∀ x ∈ u, 0 ≤ x ∧ x ≤ B) (hB : 0 ≤ B) :
    (inc1 u c).length = u.length ∧ (∀ x ∈ inc1 u c, 0 ≤ x ∧ x ≤ B + 1) ∧ (∀ p, i ≤ p → (inc1 u c)[p]? = u[p]?) := by
  unfold inc1
  refine ⟨List.length_set, fun x hx => ?_, fun p hp => ?_⟩
  · rcases List.mem_or_eq_of_mem_set hx with h | h
    · have := hu x h; omega
    · subst h
      cases e : u[c.toNat]? with
      | none => simp; omega
      | some y => have := hu y (List.mem_of_getElem? e); simp; omega
  · rw [List.getElem?_set_ne (by omega)]
theorem incs_facts {i : Nat} : ∀ (cs : List Int) {u : List Int} {B : Int}, (∀ c ∈ cs, 0 ≤ c ∧ c < i) → (∀ x ∈ u, 0 ≤ x ∧ x ≤ B) → 0 ≤ B →
    (incs u cs).length = u.length ∧ (∀ x ∈ incs u cs, 0 ≤ x ∧ x ≤ B + cs.length) ∧ (∀ p, i ≤ p → (incs u cs)[p]? = u[p]?)
  | [], u, B, _, hu, hB => ⟨rfl, fun x hx => by have := hu x hx; simp; omega, fun _ _ => rfl⟩
  | c :: cs, u, B, hc, hu, hB => by
    obtain ⟨h1, h2, h3⟩ := inc1_facts (hc c (by simp)) hu hB
    obtain ⟨k1, k2, k3⟩ := incs_facts cs (u := inc1 u c) (B := B + 1) (fun c' hc' => hc c' (by simp [hc'])) h2 (by omega)
    refine ⟨k1.trans h1, fun x hx => ?_, fun p hp => (k3 p hp).trans (h3 p hp)⟩
    have := k2 x hx
    rw [List.length_cons]
    omega
theorem nodeB_kids {i : Int} {n : NodeD} (h : nodeB i n = true) : ∀ c ∈ kidsN n, 0 ≤ c ∧ c ≤ i - 1 := by
  unfold nodeB at h
  simp only [Bool.and_eq_true] at h
  intro c hc
  exact inR_iff.1 (List.all_eq_true.1 h.2.2 c hc)
theorem kids_len (n : NodeD) : (kidsN n).length ≤ 2 := by simp only [kidsN, kids, List.length_take, List.length_cons, List.length_nil]; omega
theorem uses_facts {ns : List NodeD} : ∀ (i : Nat), i ≤ ns.length → OkUp ns i →
    (usesAt ns i).length = ns.length ∧ (∀ x ∈ usesAt ns i, 0 ≤ x ∧ x ≤ 2 * (i : Int)) ∧ (∀ p x, i ≤ p + 1 → (usesAt ns i)[p]? = some x → x = 0)
  | 0, _, _ => by
    refine ⟨by simp [usesAt, usesOf], fun x hx => ?_, fun p x _ hx => ?_⟩
    · simp only [usesAt, usesOf, List.take_zero, List.foldl_nil, List.mem_replicate] at hx
      omega
    · simp only [usesAt, usesOf, List.take_zero, List.foldl_nil, List.getElem?_replicate] at hx
      split at hx
      · cases hx; rfl
      · cases hx
  | i + 1, hi, hok => by
    have hlt : i < ns.length := by omega
    obtain ⟨h1, h2, h3⟩ := uses_facts i (by omega) fun j n hj => hok j n (by omega)
    have hn := hok i _ (Nat.lt_succ_self i) (get_lt hlt)
    obtain ⟨k1, k2, k3⟩ := incs_facts (i := i) (kidsN (ns[i]'hlt)) (u := usesAt ns i) (B := 2 * (i : Int)) (fun c hc => by have := nodeB_kids hn c hc; omega) h2 (by omega)
    rw [usesAt_succ hlt]
    refine ⟨k1.trans h1, fun x hx => ?_, fun p x hp hx => ?_⟩
    · have := k2 x hx
      have := kids_len (ns[i]'hlt)
      omega
    · rw [k3 p (by omega)] at hx
      exact h3 p x (by omega) hx
theorem kind_cases {k : Int} (a b : Int) (h : isK k = true) : (inR k 0 4 = true ∧ inR k 5 8 = false ∧ kids k a b = []) ∨ (inR k 0 4 = false ∧ inR k 5 8 = false ∧ kids k a b = [a]) ∨ (inR k 0 4 = false ∧ inR k 5 8 = true ∧ kids k a b = [a, b]) := by
  rcases kinds h with e | e | e | e | e | e | e | e | e | e | e | e | e | e | e | e | e <;> subst e <;> first | exact .inl ⟨rfl, rfl, rfl⟩ | exact .inr (.inl ⟨rfl, rfl, rfl⟩) | exact .inr (.inr ⟨rfl, rfl, rfl⟩)
theorem all_one (us : List Int) : (!us.any fun x => x != 1) = us.all fun x => x == 1 := by
  induction us with
  | nil => rfl
  | cons x us ih =>
    simp only [List.any_cons, List.all_cons, Bool.not_or, bne, Bool.not_not] at ih ⊢
    rw [ih]
theorem valid_last {ns : List NodeD} (h : inR ns.length 1 16 = true) (hok : OkUp ns ns.length) : validS ns = ((usesAt ns ns.length).take (ns.length - 1)).all (fun x => x == 1) := by
  unfold validS
  rw [h, okUp_all hok, Bool.true_and, Bool.true_and]

/-! impl.in -/
noncomputable def c_impl_in : Ctx := mkC Try.prog tyT [] [] [] 15 (fun _ => none) 0
theorem w_impl_in (n lo hi : Int) (K : V → Heap → Prop) : wpFn c_impl_in Try.f79 (encAs [.cell tI, .cell tI, .cell tI] (n, lo, hi, ())) [] K =
  cond (decide (n ≥ lo))
    (K (.bool (decide (n ≤ hi))) [])
    (K (.bool false) []) := by kernel_rfl
noncomputable def s_impl_in : Sm := semT [.cell tI, .cell tI, .cell tI] fun x => match x with | (n, lo, hi, _) => .bool (inR n lo hi)
theorem ok_impl_in : FnOk Try.prog 79 s_impl_in := fnOk_typed (fnOk_runC (C := c_impl_in) rfl mixed .nil .nil .nil Try.func79 (by kernel_rfl)) fun (x : ((Int) × (Int) × (Int) × Unit)) wf K h => by
  obtain ⟨n, lo, hi, ⟨⟩⟩ := x
  replace h : K (.bool (inR n lo hi)) [] := h
  rw [w_impl_in n lo hi K]
  revert h
  unfold inR
  cases decide (n ≥ lo) <;> exact id

/-! spec.l00In -/
/-! impl.ruleOf -/
noncomputable def c_impl_ruleOf : Ctx := mkC Try.prog tyT [] [] [] 51 (fun _ => none) 0
theorem w_impl_ruleOf (k : Int) (K : V → Heap → Prop) : wpFn c_impl_ruleOf Try.f98 (encAs [.cell tI] (k, ())) [] K =
  cond (k == 0)
    (K (.tuple [(.agg [(.int .i64 1), (.int .i64 0), (.bool false), (.int .i64 1)]), (.bool true)]) [])
    (cond (k == 1)
      (K (.tuple [(.agg [(.int .i64 3), (.int .i64 0), (.bool false), (.int .i64 1)]), (.bool true)]) [])
      (cond (k == 2)
        (cond (k == 2)
          (K (.tuple [(.agg [(.int .i64 2), (.int .i64 0), (.bool false), (.int .i64 1)]), (.bool true)]) [])
          (cond (k == 4)
            (K (.tuple [(.agg [(.int .i64 4), (.int .i64 0), (.bool false), (.int .i64 0)]), (.bool true)]) [])
            (cond (k == 5)
              (cond (k == 5)
                (K (.tuple [(.agg [(.int .i64 0), (.int .i64 2), (.bool false), (.int .i64 0)]), (.bool true)]) [])
                (cond (k == 8)
                  (K (.tuple [(.agg [(.int .i64 1), (.int .i64 2), (.bool false), (.int .i64 2)]), (.bool true)]) [])
                  (cond (k == 9)
                    (K (.tuple [(.agg [(.int .i64 3), (.int .i64 1), (.bool false), (.int .i64 0)]), (.bool true)]) [])
                    (cond (k == 10)
                      (K (.tuple [(.agg [(.int .i64 1), (.int .i64 1), (.bool false), (.int .i64 2)]), (.bool true)]) [])
                      (cond (k == 11)
                        (K (.tuple [(.agg [(.int .i64 3), (.int .i64 1), (.bool false), (.int .i64 2)]), (.bool true)]) [])
                        (cond (k == 12)
                          (K (.tuple [(.agg [(.int .i64 1), (.int .i64 1), (.bool true), (.int .i64 0)]), (.bool true)]) [])
                          (cond (k == 13)
                            (K (.tuple [(.agg [(.int .i64 0), (.int .i64 1), (.bool true), (.int .i64 0)]), (.bool true)]) [])
                            (cond (k == 14)
                              (K (.tuple [(.agg [(.int .i64 1), (.int .i64 1), (.bool true), (.int .i64 2)]), (.bool true)]) [])
                              (cond (k == 15)
                                (K (.tuple [(.agg [(.int .i64 1), (.int .i64 1), (.bool false), (.int .i64 0)]), (.bool true)]) [])
                                (cond (k == 16)
                                  (K (.tuple [(.agg [(.int .i64 1), (.int .i64 1), (.bool false), (.int .i64 1)]), (.bool true)]) [])
                                  (K (.tuple [(.agg [(.int .i64 0), (.int .i64 0), (.bool false), (.int .i64 0)]), (.bool false)]) [])))))))))))
              (cond (k == 6)
                (cond (k == 6)
                  (K (.tuple [(.agg [(.int .i64 0), (.int .i64 2), (.bool false), (.int .i64 0)]), (.bool true)]) [])
                  (cond (k == 8)
                    (K (.tuple [(.agg [(.int .i64 1), (.int .i64 2), (.bool false), (.int .i64 2)]), (.bool true)]) [])
                    (cond (k == 9)
                      (K (.tuple [(.agg [(.int .i64 3), (.int .i64 1), (.bool false), (.int .i64 0)]), (.bool true)]) [])
                      (cond (k == 10)
                        (K (.tuple [(.agg [(.int .i64 1), (.int .i64 1), (.bool false), (.int .i64 2)]), (.bool true)]) [])
                        (cond (k == 11)
                          (K (.tuple [(.agg [(.int .i64 3), (.int .i64 1), (.bool false), (.int .i64 2)]), (.bool true)]) [])
                          (cond (k == 12)
                            (K (.tuple [(.agg [(.int .i64 1), (.int .i64 1), (.bool true), (.int .i64 0)]), (.bool true)]) [])
                            (cond (k == 13)
                              (K (.tuple [(.agg [(.int .i64 0), (.int .i64 1), (.bool true), (.int .i64 0)]), (.bool true)]) [])
                              (cond (k == 14)
                                (K (.tuple [(.agg [(.int .i64 1), (.int .i64 1), (.bool true), (.int .i64 2)]), (.bool true)]) [])
                                (cond (k == 15)
                                  (K (.tuple [(.agg [(.int .i64 1), (.int .i64 1), (.bool false), (.int .i64 0)]), (.bool true)]) [])
                                  (cond (k == 16)
                                    (K (.tuple [(.agg [(.int .i64 1), (.int .i64 1), (.bool false), (.int .i64 1)]), (.bool true)]) [])
                                    (K (.tuple [(.agg [(.int .i64 0), (.int .i64 0), (.bool false), (.int .i64 0)]), (.bool false)]) [])))))))))))
                (cond (k == 7)
                  (K (.tuple [(.agg [(.int .i64 0), (.int .i64 2), (.bool false), (.int .i64 0)]), (.bool true)]) [])
                  (cond (k == 8)
                    (K (.tuple [(.agg [(.int .i64 1), (.int .i64 2), (.bool false), (.int .i64 2)]), (.bool true)]) [])
                    (cond (k == 9)
                      (K (.tuple [(.agg [(.int .i64 3), (.int .i64 1), (.bool false), (.int .i64 0)]), (.bool true)]) [])
                      (cond (k == 10)
                        (K (.tuple [(.agg [(.int .i64 1), (.int .i64 1), (.bool false), (.int .i64 2)]), (.bool true)]) [])
                        (cond (k == 11)
                          (K (.tuple [(.agg [(.int .i64 3), (.int .i64 1), (.bool false), (.int .i64 2)]), (.bool true)]) [])
                          (cond (k == 12)
                            (K (.tuple [(.agg [(.int .i64 1), (.int .i64 1), (.bool true), (.int .i64 0)]), (.bool true)]) [])
                            (cond (k == 13)
                              (K (.tuple [(.agg [(.int .i64 0), (.int .i64 1), (.bool true), (.int .i64 0)]), (.bool true)]) [])
                              (cond (k == 14)
                                (K (.tuple [(.agg [(.int .i64 1), (.int .i64 1), (.bool true), (.int .i64 2)]), (.bool true)]) [])
                                (cond (k == 15)
                                  (K (.tuple [(.agg [(.int .i64 1), (.int .i64 1), (.bool false), (.int .i64 0)]), (.bool true)]) [])
                                  (cond (k == 16)
                                    (K (.tuple [(.agg [(.int .i64 1), (.int .i64 1), (.bool false), (.int .i64 1)]), (.bool true)]) [])
                                    (K (.tuple [(.agg [(.int .i64 0), (.int .i64 0), (.bool false), (.int .i64 0)]), (.bool false)]) [])))))))))))))))
        (cond (k == 3)
          (K (.tuple [(.agg [(.int .i64 2), (.int .i64 0), (.bool false), (.int .i64 1)]), (.bool true)]) [])
          (cond (k == 4)
            (K (.tuple [(.agg [(.int .i64 4), (.int .i64 0), (.bool false), (.int .i64 0)]), (.bool true)]) [])
            (cond (k == 5)
              (cond (k == 5)
                (K (.tuple [(.agg [(.int .i64 0), (.int .i64 2), (.bool false), (.int .i64 0)]), (.bool true)]) [])
                (cond (k == 8)
                  (K (.tuple [(.agg [(.int .i64 1), (.int .i64 2), (.bool false), (.int .i64 2)]), (.bool true)]) [])
                  (cond (k == 9)
                    (K (.tuple [(.agg [(.int .i64 3), (.int .i64 1), (.bool false), (.int .i64 0)]), (.bool true)]) [])
                    (cond (k == 10)
                      (K (.tuple [(.agg [(.int .i64 1), (.int .i64 1), (.bool false), (.int .i64 2)]), (.bool true)]) [])
                      (cond (k == 11)
                        (K (.tuple [(.agg [(.int .i64 3), (.int .i64 1), (.bool false), (.int .i64 2)]), (.bool true)]) [])
                        (cond (k == 12)
                          (K (.tuple [(.agg [(.int .i64 1), (.int .i64 1), (.bool true), (.int .i64 0)]), (.bool true)]) [])
                          (cond (k == 13)
                            (K (.tuple [(.agg [(.int .i64 0), (.int .i64 1), (.bool true), (.int .i64 0)]), (.bool true)]) [])
                            (cond (k == 14)
                              (K (.tuple [(.agg [(.int .i64 1), (.int .i64 1), (.bool true), (.int .i64 2)]), (.bool true)]) [])
                              (cond (k == 15)
                                (K (.tuple [(.agg [(.int .i64 1), (.int .i64 1), (.bool false), (.int .i64 0)]), (.bool true)]) [])
                                (cond (k == 16)
                                  (K (.tuple [(.agg [(.int .i64 1), (.int .i64 1), (.bool false), (.int .i64 1)]), (.bool true)]) [])
                                  (K (.tuple [(.agg [(.int .i64 0), (.int .i64 0), (.bool false), (.int .i64 0)]), (.bool false)]) [])))))))))))
              (cond (k == 6)
                (cond (k == 6)
                  (K (.tuple [(.agg [(.int .i64 0), (.int .i64 2), (.bool false), (.int .i64 0)]), (.bool true)]) [])
                  (cond (k == 8)
                    (K (.tuple [(.agg [(.int .i64 1), (.int .i64 2), (.bool false), (.int .i64 2)]), (.bool true)]) [])
                    (cond (k == 9)
                      (K (.tuple [(.agg [(.int .i64 3), (.int .i64 1), (.bool false), (.int .i64 0)]), (.bool true)]) [])
                      (cond (k == 10)
                        (K (.tuple [(.agg [(.int .i64 1), (.int .i64 1), (.bool false), (.int .i64 2)]), (.bool true)]) [])
                        (cond (k == 11)
                          (K (.tuple [(.agg [(.int .i64 3), (.int .i64 1), (.bool false), (.int .i64 2)]), (.bool true)]) [])
                          (cond (k == 12)
                            (K (.tuple [(.agg [(.int .i64 1), (.int .i64 1), (.bool true), (.int .i64 0)]), (.bool true)]) [])
                            (cond (k == 13)
                              (K (.tuple [(.agg [(.int .i64 0), (.int .i64 1), (.bool true), (.int .i64 0)]), (.bool true)]) [])
                              (cond (k == 14)
                                (K (.tuple [(.agg [(.int .i64 1), (.int .i64 1), (.bool true), (.int .i64 2)]), (.bool true)]) [])
                                (cond (k == 15)
                                  (K (.tuple [(.agg [(.int .i64 1), (.int .i64 1), (.bool false), (.int .i64 0)]), (.bool true)]) [])
                                  (cond (k == 16)
                                    (K (.tuple [(.agg [(.int .i64 1), (.int .i64 1), (.bool false), (.int .i64 1)]), (.bool true)]) [])
                                    (K (.tuple [(.agg [(.int .i64 0), (.int .i64 0), (.bool false), (.int .i64 0)]), (.bool false)]) [])))))))))))
                (cond (k == 7)
                  (K (.tuple [(.agg [(.int .i64 0), (.int .i64 2), (.bool false), (.int .i64 0)]), (.bool true)]) [])
                  (cond (k == 8)
                    (K (.tuple [(.agg [(.int .i64 1), (.int .i64 2), (.bool false), (.int .i64 2)]), (.bool true)]) [])
                    (cond (k == 9)
                      (K (.tuple [(.agg [(.int .i64 3), (.int .i64 1), (.bool false), (.int .i64 0)]), (.bool true)]) [])
                      (cond (k == 10)
                        (K (.tuple [(.agg [(.int .i64 1), (.int .i64 1), (.bool false), (.int .i64 2)]), (.bool true)]) [])
                        (cond (k == 11)
                          (K (.tuple [(.agg [(.int .i64 3), (.int .i64 1), (.bool false), (.int .i64 2)]), (.bool true)]) [])
                          (cond (k == 12)
                            (K (.tuple [(.agg [(.int .i64 1), (.int .i64 1), (.bool true), (.int .i64 0)]), (.bool true)]) [])
                            (cond (k == 13)
                              (K (.tuple [(.agg [(.int .i64 0), (.int .i64 1), (.bool true), (.int .i64 0)]), (.bool true)]) [])
                              (cond (k == 14)
                                (K (.tuple [(.agg [(.int .i64 1), (.int .i64 1), (.bool true), (.int .i64 2)]), (.bool true)]) [])
                                (cond (k == 15)
                                  (K (.tuple [(.agg [(.int .i64 1), (.int .i64 1), (.bool false), (.int .i64 0)]), (.bool true)]) [])
                                  (cond (k == 16)
                                    (K (.tuple [(.agg [(.int .i64 1), (.int .i64 1), (.bool false), (.int .i64 1)]), (.bool true)]) [])
                                    (K (.tuple [(.agg [(.int .i64 0), (.int .i64 0), (.bool false), (.int .i64 0)]), (.bool false)]) []))))))))))))))))) := by kernel_rfl
noncomputable def s_impl_ruleOf : Sm := semT [.cell tI] fun x => match x with | (k, _) => .tuple [.agg [.int .i64 (kindN k), .int .i64 (kindC k), .bool (kindA k), .int .i64 (kindS k)], .bool (isK k)]
theorem ok_impl_ruleOf : FnOk Try.prog 98 s_impl_ruleOf := fnOk_typed (fnOk_runC (C := c_impl_ruleOf) rfl mixed .nil .nil .nil Try.func98 (by kernel_rfl)) fun (x : ((Int) × Unit)) wf K h => by
  obtain ⟨k, ⟨⟩⟩ := x
  replace h : K (.tuple [.agg [.int .i64 (kindN k), .int .i64 (kindC k), .bool (kindA k), .int .i64 (kindS k)], .bool (isK k)]) [] := h
  rw [w_impl_ruleOf k K]
  cases hk : isK k with
  | true =>
    rw [hk] at h
    rcases kinds hk with e | e | e | e | e | e | e | e | e | e | e | e | e | e | e | e | e <;> subst e <;> exact h
  | false =>
    rw [hk] at h
    simp only [kindN, kindC, kindA, kindS, kindV_no hk] at h
    simp only [isK_ne hk (j := 0) (by decide), isK_ne hk (j := 1) (by decide), isK_ne hk (j := 2) (by decide), isK_ne hk (j := 3) (by decide), isK_ne hk (j := 4) (by decide), isK_ne hk (j := 5) (by decide), isK_ne hk (j := 6) (by decide), isK_ne hk (j := 7) (by decide), isK_ne hk (j := 8) (by decide), isK_ne hk (j := 9) (by decide), isK_ne hk (j := 10) (by decide), isK_ne hk (j := 11) (by decide), isK_ne hk (j := 12) (by decide), isK_ne hk (j := 13) (by decide), isK_ne hk (j := 14) (by decide), isK_ne hk (j := 15) (by decide), isK_ne hk (j := 16) (by decide), cond_false]
    exact h

/-! impl.IsFinite -/
noncomputable def c_impl_IsFinite : Ctx := mkC Try.prog tyT [] [] [] 7 (fun _ => none) 0
theorem w_impl_IsFinite (x : Nat) (K : V → Heap → Prop) : wpFn c_impl_IsFinite Try.f78 (encAs [.cell tF] (x, ())) [] K =
  K (.bool (feq FloatKind.f32 (fsub FloatKind.f32 x x) 0)) [] := by kernel_rfl
noncomputable def s_impl_IsFinite : Sm := semT [.cell tF] fun x => match x with | (x, _) => .bool (finN x)
theorem ok_impl_IsFinite : FnOk Try.prog 78 s_impl_IsFinite := fnOk_typed (fnOk_runC (C := c_impl_IsFinite) rfl mixed .nil .nil .nil Try.func78 (by kernel_rfl)) fun (x : ((Nat) × Unit)) wf K h => by
  obtain ⟨x, ⟨⟩⟩ := x
  replace h : K (.bool (finN x)) [] := h
  rw [w_impl_IsFinite x K]
  exact h

/-! impl.finite$1 -/
noncomputable def c_impl_finite_1 : Ctx := mkC Try.prog tyT [(78, s_impl_IsFinite)] [] [] 6 (fun _ => none) 0
theorem w_impl_finite_1 (x : Nat) (K : V → Heap → Prop) : wpFn c_impl_finite_1 Try.f157 (encAs [.cell tF] (x, ())) [] K =
  K (.bool (!finN x)) [] := by kernel_rfl
noncomputable def s_impl_finite_1 : Sm := semT [.cell tF] fun x => match x with | (x, _) => .bool (!finN x)
theorem ok_impl_finite_1 : FnOk Try.prog 157 s_impl_finite_1 := fnOk_typed (fnOk_runC (C := c_impl_finite_1) rfl mixed (.cons ok_impl_IsFinite .nil) .nil .nil Try.func157 (by kernel_rfl)) fun (x : ((Nat) × Unit)) wf K h => by
  obtain ⟨x, ⟨⟩⟩ := x
  replace h : K (.bool (!finN x)) [] := h
  rw [w_impl_finite_1 x K]
  exact h

/-! slices.IndexFunc[[]float32,float32] -/
noncomputable def a_slices_IndexFunc__float32_vfin : Nat → Option Ann := fun n => bif Nat.beq n 2 then some ⟨[0,1,7,8],0,false⟩ else none
noncomputable def c_slices_IndexFunc__float32_vfin : Ctx := mkC Try.prog tyT [(157, s_impl_finite_1)] [] [] 19 a_slices_IndexFunc__float32_vfin 0
noncomputable def fr_slices_IndexFunc__float32_vfin_2 (xs : List (Nat)) (n i : Int) : Fr := [(0, .vec (tF) xs), (1, .fn 157 []), (7, .int .i64 n), (8, .int .i64 i)]
theorem r_slices_IndexFunc__float32_vfin_2 (xs : List (Nat)) (n i : Int) (Kn : Fr → Heap → Prop) (K : V → Heap → Prop) : round c_slices_IndexFunc__float32_vfin ⟨[0,1,7,8],0,false⟩ (lb c_slices_IndexFunc__float32_vfin 2 Try.f168) (fr_slices_IndexFunc__float32_vfin_2 xs n i) [] Kn (lk c_slices_IndexFunc__float32_vfin 2 Try.f168 [] K) =
  cond (decide (i < n))
    (cond (decide (0 ≤ i))
      ((match xs[Int.toNat i]? with
        | some y0 => cond (!finN y0)
          (K (.int .i64 (i)) [])
          (Kn [(0, (.vec (.float .f32) (xs))), (1, (.fn 157 [])), (7, (.int .i64 (n))), (8, (.int .i64 (IntKind.wrap IntKind.i64 (i + 1))))] [])
        | none => False))
      (False))
    (K (.int .i64 (-1)) []) := by kernel_rfl
theorem w_slices_IndexFunc__float32_vfin (xs : List (Nat)) (K : V → Heap → Prop) : wpFn c_slices_IndexFunc__float32_vfin Try.f168 (encAs [.cell (.slice (tF)), .fn 157] (xs, (), ())) [] K =
  LoopE c_slices_IndexFunc__float32_vfin ⟨[0, 1, 7, 8], 0, false⟩ (lb c_slices_IndexFunc__float32_vfin 2 Try.f168) [(0, (.vec (.float .f32) (xs))), (1, (.fn 157 [])), (7, (.int .i64 ((↑(List.length xs) : Int)))), (8, (.int .i64 0))] [] (lk c_slices_IndexFunc__float32_vfin 2 Try.f168 [] K) := by kernel_rfl
noncomputable def s_slices_IndexFunc__float32_vfin : Sm := semT [.cell (.slice (tF)), .fn 157] fun x => match x with | (xs, _, _) => .int .i64 (idxF (fun x => !finN x) xs)
theorem ok_slices_IndexFunc__float32_vfin : FnOk Try.prog 168 s_slices_IndexFunc__float32_vfin := fnOk_typed (fnOk_runC (C := c_slices_IndexFunc__float32_vfin) rfl mixed (.cons ok_impl_finite_1 .nil) .nil .nil Try.func168 (by kernel_rfl)) fun (x : ((List (Nat)) × Unit × Unit)) wf K h => by
  obtain ⟨xs, ⟨⟩, ⟨⟩⟩ := x
  replace h : K (.int .i64 (idxF (fun x => !finN x) xs)) [] := h
  rw [w_slices_IndexFunc__float32_vfin xs K]
  obtain ⟨⟨wl, _⟩, _⟩ := wf
  have wl : xs.length ≤ 9223372036854775807 := wl
  refine loop_run (σ := Nat) (fun i => fr_slices_IndexFunc__float32_vfin_2 xs xs.length i) (fun _ => []) (fun i => i ≤ xs.length ∧ (xs.take i).any (fun x => !finN x) = false) (fun i => xs.length - i) ?_ 0 ⟨Nat.zero_le _, rfl⟩
  intro i hi Kn hk
  rw [r_slices_IndexFunc__float32_vfin_2 xs xs.length i Kn K]
  by_cases hlt : i < xs.length
  · simp only [d_lt hlt, d_0, cond_true, Int.toNat_natCast, get_lt hlt]
    cases hp : (fun x => !finN x) (xs[i]'hlt) with
    | true =>
      rw [idxF_hit hlt hi.2 hp] at h
      simp only at hp
      simp only [hp, cond_true]
      exact h
    | false =>
      have hn := any_snoc (f := (fun x => !finN x)) hlt hi.2 hp
      simp only at hp
      simp only [hp, cond_false]
      rw [i64_of (by omega) (by omega)]
      exact hk (i + 1) ⟨hlt, hn⟩ (by omega)
  · simp only [d_nlt hlt, cond_false]
    have : i = xs.length := by omega
    subst this
    have ha := hi.2
    rw [List.take_length] at ha
    rw [idxF_none ha] at h
    exact h

/-! slices.ContainsFunc[[]float32,float32] -/
noncomputable def c_slices_ContainsFunc__float32_vfin : Ctx := mkC Try.prog tyT [(168, s_slices_IndexFunc__float32_vfin)] [] [] 9 (fun _ => none) 0
theorem w_slices_ContainsFunc__float32_vfin (xs : List (Nat)) (K : V → Heap → Prop) : wpFn c_slices_ContainsFunc__float32_vfin Try.f142 (encAs [.cell (.slice (tF)), .fn 157] (xs, (), ())) [] K =
  K (.bool (decide (idxF (fun x => !finN x) xs ≥ 0))) [] := by kernel_rfl
noncomputable def s_slices_ContainsFunc__float32_vfin : Sm := semT [.cell (.slice (tF)), .fn 157] fun x => match x with | (xs, _, _) => .bool (xs.any (fun x => !finN x))
theorem ok_slices_ContainsFunc__float32_vfin : FnOk Try.prog 142 s_slices_ContainsFunc__float32_vfin := fnOk_typed (fnOk_runC (C := c_slices_ContainsFunc__float32_vfin) rfl mixed (.cons ok_slices_IndexFunc__float32_vfin .nil) .nil .nil Try.func142 (by kernel_rfl)) fun (x : ((List (Nat)) × Unit × Unit)) wf K h => by
  obtain ⟨xs, ⟨⟩, ⟨⟩⟩ := x
  replace h : K (.bool (xs.any (fun x => !finN x))) [] := h
  rw [w_slices_ContainsFunc__float32_vfin xs K]
  rw [idxF_ge]
  exact h


/-! impl.finite -/
noncomputable def c_impl_finite : Ctx := mkC Try.prog tyT [(142, s_slices_ContainsFunc__float32_vfin)] [] [] 6 (fun _ => none) 0
theorem w_impl_finite (xs : List Nat) (K : V → Heap → Prop) : wpFn c_impl_finite Try.f131 (encAs [.cell (.slice tF)] (xs, ())) [] K =
  K (.bool (!List.any xs fun x => !finN x)) [] := by kernel_rfl
noncomputable def s_impl_finite : Sm := semT [.cell (.slice tF)] fun x => match x with | (xs, _) => .bool (!xs.any (fun x => !finN x))
theorem ok_impl_finite : FnOk Try.prog 131 s_impl_finite := fnOk_typed (fnOk_runC (C := c_impl_finite) rfl mixed (.cons ok_slices_ContainsFunc__float32_vfin .nil) .nil .nil Try.func131 (by kernel_rfl)) fun (x : ((List Nat) × Unit)) wf K h => by
  obtain ⟨xs, ⟨⟩⟩ := x
  replace h : K (.bool (!xs.any (fun x => !finN x))) [] := h
  rw [w_impl_finite xs K]
  exact h

/-! impl.numbersOk$1 -/
noncomputable def c_impl_numbersOk_1 : Ctx := mkC Try.prog tyT [] [] [] 20 (fun _ => none) 0
theorem w_impl_numbersOk_1 (x : Nat) (a b : Int) (c : Bool) (d : Int) (K : V → Heap → Prop) : wpFn c_impl_numbersOk_1 Try.f143 (encAs [.cell tF, .ref tR] (x, (a, b, c, d), ())) [] K =
  cond (d == 1)
    (cond (flt FloatKind.f32 x 0)
      (K (.bool true) [])
      (cond (d == 2)
        (K (.bool (fle FloatKind.f32 x 0)) [])
        (K (.bool false) [])))
    (cond (d == 2)
      (K (.bool (fle FloatKind.f32 x 0)) [])
      (K (.bool false) [])) := by kernel_rfl
noncomputable def s_impl_numbersOk_1 : Sm := semT [.cell tF, .ref tR] fun x => match x with | (x, (a, b, c, d), _) => .bool (sgnB d x)
theorem ok_impl_numbersOk_1 : FnOk Try.prog 143 s_impl_numbersOk_1 := fnOk_typed (fnOk_runC (C := c_impl_numbersOk_1) rfl mixed .nil .nil .nil Try.func143 (by kernel_rfl)) fun (x : ((Nat) × ((Int) × (Int) × (Bool) × (Int)) × Unit)) wf K h => by
  obtain ⟨x, ⟨a, b, c, d⟩, ⟨⟩⟩ := x
  replace h : K (.bool (sgnB d x)) [] := h
  rw [w_impl_numbersOk_1 x a b c d K]
  revert h
  unfold sgnB
  cases d == 1 <;> cases d == 2 <;> cases flt FloatKind.f32 x 0 <;> exact id

/-! slices.IndexFunc[[]float32,float32] -/
noncomputable def a_slices_IndexFunc__float32_vsgn : Nat → Option Ann := fun n => bif Nat.beq n 2 then some ⟨[0,1,7,8],0,false⟩ else none
noncomputable def c_slices_IndexFunc__float32_vsgn : Ctx := mkC Try.prog tyT [(143, s_impl_numbersOk_1)] [] [] 19 a_slices_IndexFunc__float32_vsgn 0
noncomputable def fr_slices_IndexFunc__float32_vsgn_2 (xs : List (Nat)) (a b : Int) (c : Bool) (d : Int) (n i : Int) : Fr := [(0, .vec (tF) xs), (1, .fn 143 [.ref [.int .i64 a, .int .i64 b, .bool c, .int .i64 d] 0]), (7, .int .i64 n), (8, .int .i64 i)]
theorem r_slices_IndexFunc__float32_vsgn_2 (xs : List (Nat)) (a b : Int) (c : Bool) (d : Int) (n i : Int) (Kn : Fr → Heap → Prop) (K : V → Heap → Prop) : round c_slices_IndexFunc__float32_vsgn ⟨[0,1,7,8],0,false⟩ (lb c_slices_IndexFunc__float32_vsgn 2 Try.f168) (fr_slices_IndexFunc__float32_vsgn_2 xs a b c d n i) [] Kn (lk c_slices_IndexFunc__float32_vsgn 2 Try.f168 [] K) =
  cond (decide (i < n))
    (cond (decide (0 ≤ i))
      ((match xs[Int.toNat i]? with
        | some y0 => cond (sgnB d y0)
          (K (.int .i64 (i)) [])
          (Kn [(0, (.vec (.float .f32) (xs))), (1, (.fn 143 [(.ref [(.int .i64 (a)), (.int .i64 (b)), (.bool (c)), (.int .i64 (d))] 0)])), (7, (.int .i64 (n))), (8, (.int .i64 (IntKind.wrap IntKind.i64 (i + 1))))] [])
        | none => False))
      (False))
    (K (.int .i64 (-1)) []) := by kernel_rfl
theorem w_slices_IndexFunc__float32_vsgn (xs : List (Nat)) (a b : Int) (c : Bool) (d : Int) (K : V → Heap → Prop) : wpFn c_slices_IndexFunc__float32_vsgn Try.f168 (encAs [.cell (.slice (tF)), .clo 143 tR] (xs, (a, b, c, d), ())) [] K =
  LoopE c_slices_IndexFunc__float32_vsgn ⟨[0, 1, 7, 8], 0, false⟩ (lb c_slices_IndexFunc__float32_vsgn 2 Try.f168) [(0, (.vec (.float .f32) (xs))), (1, (.fn 143 [(.ref [(.int .i64 (a)), (.int .i64 (b)), (.bool (c)), (.int .i64 (d))] 0)])), (7, (.int .i64 ((↑(List.length xs) : Int)))), (8, (.int .i64 0))] [] (lk c_slices_IndexFunc__float32_vsgn 2 Try.f168 [] K) := by kernel_rfl
noncomputable def s_slices_IndexFunc__float32_vsgn : Sm := semT [.cell (.slice (tF)), .clo 143 tR] fun x => match x with | (xs, (a, b, c, d), _) => .int .i64 (idxF (fun x => sgnB d x) xs)
theorem ok_slices_IndexFunc__float32_vsgn : FnOk Try.prog 168 s_slices_IndexFunc__float32_vsgn := fnOk_typed (fnOk_runC (C := c_slices_IndexFunc__float32_vsgn) rfl mixed (.cons ok_impl_numbersOk_1 .nil) .nil .nil Try.func168 (by kernel_rfl)) fun (x : ((List (Nat)) × ((Int) × (Int) × (Bool) × (Int)) × Unit)) wf K h => by
  obtain ⟨xs, ⟨a, b, c, d⟩, ⟨⟩⟩ := x
  replace h : K (.int .i64 (idxF (fun x => sgnB d x) xs)) [] := h
  rw [w_slices_IndexFunc__float32_vsgn xs a b c d K]
  obtain ⟨⟨wl, _⟩, _⟩ := wf
  have wl : xs.length ≤ 9223372036854775807 := wl
  refine loop_run (σ := Nat) (fun i => fr_slices_IndexFunc__float32_vsgn_2 xs a b c d xs.length i) (fun _ => []) (fun i => i ≤ xs.length ∧ (xs.take i).any (fun x => sgnB d x) = false) (fun i => xs.length - i) ?_ 0 ⟨Nat.zero_le _, rfl⟩
  intro i hi Kn hk
  rw [r_slices_IndexFunc__float32_vsgn_2 xs a b c d xs.length i Kn K]
  by_cases hlt : i < xs.length
  · simp only [d_lt hlt, d_0, cond_true, Int.toNat_natCast, get_lt hlt]
    cases hp : (fun x => sgnB d x) (xs[i]'hlt) with
    | true =>
      rw [idxF_hit hlt hi.2 hp] at h
      simp only at hp
      simp only [hp, cond_true]
      exact h
    | false =>
      have hn := any_snoc (f := (fun x => sgnB d x)) hlt hi.2 hp
      simp only at hp
      simp only [hp, cond_false]
      rw [i64_of (by omega) (by omega)]
      exact hk (i + 1) ⟨hlt, hn⟩ (by omega)
  · simp only [d_nlt hlt, cond_false]
    have : i = xs.length := by omega
    subst this
    have ha := hi.2
    rw [List.take_length] at ha
    rw [idxF_none ha] at h
    exact h

/-! slices.ContainsFunc[[]float32,float32] -/
noncomputable def c_slices_ContainsFunc__float32_vsgn : Ctx := mkC Try.prog tyT [(168, s_slices_IndexFunc__float32_vsgn)] [] [] 9 (fun _ => none) 0
theorem w_slices_ContainsFunc__float32_vsgn (xs : List (Nat)) (a b : Int) (c : Bool) (d : Int) (K : V → Heap → Prop) : wpFn c_slices_ContainsFunc__float32_vsgn Try.f142 (encAs [.cell (.slice (tF)), .clo 143 tR] (xs, (a, b, c, d), ())) [] K =
  K (.bool (decide (idxF (fun x => sgnB d x) xs ≥ 0))) [] := by kernel_rfl
noncomputable def s_slices_ContainsFunc__float32_vsgn : Sm := semT [.cell (.slice (tF)), .clo 143 tR] fun x => match x with | (xs, (a, b, c, d), _) => .bool (xs.any (fun x => sgnB d x))
theorem ok_slices_ContainsFunc__float32_vsgn : FnOk Try.prog 142 s_slices_ContainsFunc__float32_vsgn := fnOk_typed (fnOk_runC (C := c_slices_ContainsFunc__float32_vsgn) rfl mixed (.cons ok_slices_IndexFunc__float32_vsgn .nil) .nil .nil Try.func142 (by kernel_rfl)) fun (x : ((List (Nat)) × ((Int) × (Int) × (Bool) × (Int)) × Unit)) wf K h => by
  obtain ⟨xs, ⟨a, b, c, d⟩, ⟨⟩⟩ := x
  replace h : K (.bool (xs.any (fun x => sgnB d x))) [] := h
  rw [w_slices_ContainsFunc__float32_vsgn xs a b c d K]
  rw [idxF_ge]
  exact h


/-! impl.numbersOk -/
noncomputable def c_impl_numbersOk : Ctx := mkC Try.prog tyT [(98, s_impl_ruleOf), (131, s_impl_finite), (142, s_slices_ContainsFunc__float32_vsgn)] [] [] 30 (fun _ => none) 0
theorem w_impl_numbersOk (k : Int) (xs : List Nat) (K : V → Heap → Prop) : wpFn c_impl_numbersOk Try.f92 (encAs [.cell tI, .cell (.slice tF)] (k, xs, ())) [] K =
  cond (!isK k)
    (K (.bool false) [])
    (cond ((↑(List.length xs) : Int) != kindN k)
      (K (.bool false) [])
      (cond (!!List.any xs fun x => !finN x)
        (K (.bool false) [])
        (K (.bool (!List.any xs fun x => sgnB (kindS k) x)) []))) := by kernel_rfl
noncomputable def s_impl_numbersOk : Sm := semT [.cell tI, .cell (.slice tF)] fun x => match x with | (k, xs, _) => .bool (numsB k xs)
theorem ok_impl_numbersOk : FnOk Try.prog 92 s_impl_numbersOk := fnOk_typed (fnOk_runC (C := c_impl_numbersOk) rfl mixed (.cons ok_impl_ruleOf (.cons ok_impl_finite (.cons ok_slices_ContainsFunc__float32_vsgn .nil))) .nil .nil Try.func92 (by kernel_rfl)) fun (x : ((Int) × (List Nat) × Unit)) wf K h => by
  obtain ⟨k, xs, ⟨⟩⟩ := x
  replace h : K (.bool (numsB k xs)) [] := h
  rw [w_impl_numbersOk k xs K]
  revert h
  unfold numsB
  simp only [bne]
  cases isK k <;> cases ((xs.length : Int) == kindN k) <;> cases (xs.any fun x => !finN x) <;> exact id

/-! impl.axisOk -/
noncomputable def c_impl_axisOk : Ctx := mkC Try.prog tyT [(98, s_impl_ruleOf), (79, s_impl_in)] [] [] 46 (fun _ => none) 0
theorem w_impl_axisOk (k a b : Int) (xs : List Nat) (K : V → Heap → Prop) : wpFn c_impl_axisOk Try.f93 (encAs [.ref tN] ((k, a, b, xs), ())) [] K =
  cond (decide (kindC k > 0))
    (cond (kindC k == 2)
      (K (.bool true) [])
      (cond (b == 0)
        (K (.bool true) [])
        (cond (kindA k)
          (K (.bool (inR b 0 2)) [])
          (K (.bool false) []))))
    (cond (a == 0)
      (cond (kindC k == 2)
        (K (.bool true) [])
        (cond (b == 0)
          (K (.bool true) [])
          (cond (kindA k)
            (K (.bool (inR b 0 2)) [])
            (K (.bool false) []))))
      (K (.bool false) [])) := by kernel_rfl
noncomputable def s_impl_axisOk : Sm := semT [.ref tN] fun x => match x with | ((k, a, b, xs), _) => .bool (axB k a b)
theorem ok_impl_axisOk : FnOk Try.prog 93 s_impl_axisOk := fnOk_typed (fnOk_runC (C := c_impl_axisOk) rfl mixed (.cons ok_impl_ruleOf (.cons ok_impl_in .nil)) .nil .nil Try.func93 (by kernel_rfl)) fun (x : (((Int) × (Int) × (Int) × (List Nat)) × Unit)) wf K h => by
  obtain ⟨⟨k, a, b, xs⟩, ⟨⟩⟩ := x
  replace h : K (.bool (axB k a b)) [] := h
  rw [w_impl_axisOk k a b xs K]
  revert h
  unfold axB
  cases decide (kindC k > 0) <;> cases a == 0 <;> cases kindC k == 2 <;> cases b == 0 <;> cases kindA k <;> exact id

/-! impl.childrenOf -/
noncomputable def c_impl_childrenOf : Ctx := mkC Try.prog tyT [(98, s_impl_ruleOf)] [] [] 25 (fun _ => none) 0 true
theorem w_impl_childrenOf (k a b : Int) (xs : List Nat) (K : V → Heap → Prop) : wpFn c_impl_childrenOf Try.f83 (encAs [.ref tN] ((k, a, b, xs), ())) [] K =
  cond (decide (0 ≤ 0) && (decide (0 ≤ kindC k) && decide (kindC k ≤ (↑2 : Int))))
    (K (.vec (.int .i64) (List.drop 0 (List.take (Int.toNat (kindC k)) [a, b]))) [])
    (False) := by kernel_rfl
noncomputable def s_impl_childrenOf : Sm := semT [.ref tN] fun x => match x with | ((k, a, b, xs), _) => .vec tI (kids k a b)
theorem ok_impl_childrenOf : FnOk Try.prog 83 s_impl_childrenOf := fnOk_typed (fnOk_runC (C := c_impl_childrenOf) rfl mixed (.cons ok_impl_ruleOf .nil) .nil .nil Try.func83 (by kernel_rfl)) fun (x : (((Int) × (Int) × (Int) × (List Nat)) × Unit)) wf K h => by
  obtain ⟨⟨k, a, b, xs⟩, ⟨⟩⟩ := x
  replace h : K (.vec tI (kids k a b)) [] := h
  rw [w_impl_childrenOf k a b xs K]
  have hc := kindC_range k
  have h3 : kindC k ≤ 2 := hc.2
  simp only [hc.1, h3, Int.le_refl, decide_true, Bool.and_self, cond_true]
  exact h

/-! impl.ValidShape$1 -/
noncomputable def c_impl_ValidShape_1 : Ctx := mkC Try.prog tyT [] [] [] 5 (fun _ => none) 0
theorem w_impl_ValidShape_1 (n : Int) (K : V → Heap → Prop) : wpFn c_impl_ValidShape_1 Try.f95 (encAs [.cell tI] (n, ())) [] K =
  K (.bool (n != 1)) [] := by kernel_rfl
noncomputable def s_impl_ValidShape_1 : Sm := semT [.cell tI] fun x => match x with | (n, _) => .bool (n != 1)
theorem ok_impl_ValidShape_1 : FnOk Try.prog 95 s_impl_ValidShape_1 := fnOk_typed (fnOk_runC (C := c_impl_ValidShape_1) rfl mixed .nil .nil .nil Try.func95 (by kernel_rfl)) fun (x : ((Int) × Unit)) wf K h => by
  obtain ⟨n, ⟨⟩⟩ := x
  replace h : K (.bool (n != 1)) [] := h
  rw [w_impl_ValidShape_1 n K]
  exact h

/-! slices.IndexFunc[[]int,int] -/
noncomputable def a_slices_IndexFunc__int_vone : Nat → Option Ann := fun n => bif Nat.beq n 2 then some ⟨[0,1,7,8],0,false⟩ else none
noncomputable def c_slices_IndexFunc__int_vone : Ctx := mkC Try.prog tyT [(95, s_impl_ValidShape_1)] [] [] 19 a_slices_IndexFunc__int_vone 0
noncomputable def fr_slices_IndexFunc__int_vone_2 (xs : List (Int)) (n i : Int) : Fr := [(0, .vec (tI) xs), (1, .fn 95 []), (7, .int .i64 n), (8, .int .i64 i)]
theorem r_slices_IndexFunc__int_vone_2 (xs : List (Int)) (n i : Int) (Kn : Fr → Heap → Prop) (K : V → Heap → Prop) : round c_slices_IndexFunc__int_vone ⟨[0,1,7,8],0,false⟩ (lb c_slices_IndexFunc__int_vone 2 Try.f144) (fr_slices_IndexFunc__int_vone_2 xs n i) [] Kn (lk c_slices_IndexFunc__int_vone 2 Try.f144 [] K) =
  cond (decide (i < n))
    (cond (decide (0 ≤ i))
      ((match xs[Int.toNat i]? with
        | some y0 => cond (y0 != 1)
          (K (.int .i64 (i)) [])
          (Kn [(0, (.vec (.int .i64) (xs))), (1, (.fn 95 [])), (7, (.int .i64 (n))), (8, (.int .i64 (IntKind.wrap IntKind.i64 (i + 1))))] [])
        | none => False))
      (False))
    (K (.int .i64 (-1)) []) := by kernel_rfl
theorem w_slices_IndexFunc__int_vone (xs : List (Int)) (K : V → Heap → Prop) : wpFn c_slices_IndexFunc__int_vone Try.f144 (encAs [.cell (.slice (tI)), .fn 95] (xs, (), ())) [] K =
  LoopE c_slices_IndexFunc__int_vone ⟨[0, 1, 7, 8], 0, false⟩ (lb c_slices_IndexFunc__int_vone 2 Try.f144) [(0, (.vec (.int .i64) (xs))), (1, (.fn 95 [])), (7, (.int .i64 ((↑(List.length xs) : Int)))), (8, (.int .i64 0))] [] (lk c_slices_IndexFunc__int_vone 2 Try.f144 [] K) := by kernel_rfl
noncomputable def s_slices_IndexFunc__int_vone : Sm := semT [.cell (.slice (tI)), .fn 95] fun x => match x with | (xs, _, _) => .int .i64 (idxF (fun x => x != 1) xs)
theorem ok_slices_IndexFunc__int_vone : FnOk Try.prog 144 s_slices_IndexFunc__int_vone := fnOk_typed (fnOk_runC (C := c_slices_IndexFunc__int_vone) rfl mixed (.cons ok_impl_ValidShape_1 .nil) .nil .nil Try.func144 (by kernel_rfl)) fun (x : ((List (Int)) × Unit × Unit)) wf K h => by
  obtain ⟨xs, ⟨⟩, ⟨⟩⟩ := x
  replace h : K (.int .i64 (idxF (fun x => x != 1) xs)) [] := h
  rw [w_slices_IndexFunc__int_vone xs K]
  obtain ⟨⟨wl, _⟩, _⟩ := wf
  have wl : xs.length ≤ 9223372036854775807 := wl
  refine loop_run (σ := Nat) (fun i => fr_slices_IndexFunc__int_vone_2 xs xs.length i) (fun _ => []) (fun i => i ≤ xs.length ∧ (xs.take i).any (fun x => x != 1) = false) (fun i => xs.length - i) ?_ 0 ⟨Nat.zero_le _, rfl⟩
  intro i hi Kn hk
  rw [r_slices_IndexFunc__int_vone_2 xs xs.length i Kn K]
  by_cases hlt : i < xs.length
  · simp only [d_lt hlt, d_0, cond_true, Int.toNat_natCast, get_lt hlt]
    cases hp : (fun x => x != 1) (xs[i]'hlt) with
    | true =>
      rw [idxF_hit hlt hi.2 hp] at h
      simp only at hp
      simp only [hp, cond_true]
      exact h
    | false =>
      have hn := any_snoc (f := (fun x => x != 1)) hlt hi.2 hp
      simp only at hp
      simp only [hp, cond_false]
      rw [i64_of (by omega) (by omega)]
      exact hk (i + 1) ⟨hlt, hn⟩ (by omega)
  · simp only [d_nlt hlt, cond_false]
    have : i = xs.length := by omega
    subst this
    have ha := hi.2
    rw [List.take_length] at ha
    rw [idxF_none ha] at h
    exact h

/-! slices.ContainsFunc[[]int,int] -/
noncomputable def c_slices_ContainsFunc__int_vone : Ctx := mkC Try.prog tyT [(144, s_slices_IndexFunc__int_vone)] [] [] 9 (fun _ => none) 0
theorem w_slices_ContainsFunc__int_vone (xs : List (Int)) (K : V → Heap → Prop) : wpFn c_slices_ContainsFunc__int_vone Try.f94 (encAs [.cell (.slice (tI)), .fn 95] (xs, (), ())) [] K =
  K (.bool (decide (idxF (fun x => x != 1) xs ≥ 0))) [] := by kernel_rfl
noncomputable def s_slices_ContainsFunc__int_vone : Sm := semT [.cell (.slice (tI)), .fn 95] fun x => match x with | (xs, _, _) => .bool (xs.any (fun x => x != 1))
theorem ok_slices_ContainsFunc__int_vone : FnOk Try.prog 94 s_slices_ContainsFunc__int_vone := fnOk_typed (fnOk_runC (C := c_slices_ContainsFunc__int_vone) rfl mixed (.cons ok_slices_IndexFunc__int_vone .nil) .nil .nil Try.func94 (by kernel_rfl)) fun (x : ((List (Int)) × Unit × Unit)) wf K h => by
  obtain ⟨xs, ⟨⟩, ⟨⟩⟩ := x
  replace h : K (.bool (xs.any (fun x => x != 1))) [] := h
  rw [w_slices_ContainsFunc__int_vone xs K]
  rw [idxF_ge]
  exact h


/-! impl.ValidShape -/
noncomputable def a_impl_ValidShape : Nat → Option Ann := fun n => bif Nat.beq n 5 then some ⟨[1,3,20,21],2,false⟩ else bif Nat.beq n 11 then some ⟨[1,3,4,20,21,44,45,46],2,false⟩ else none
noncomputable def c_impl_ValidShape : Ctx := mkC Try.prog tyT [(79, s_impl_in), (92, s_impl_numbersOk), (93, s_impl_axisOk), (83, s_impl_childrenOf), (94, s_slices_ContainsFunc__int_vone)] [] [] 78 a_impl_ValidShape 0
noncomputable def fr_impl_ValidShape_5 (ns : List NodeD) (us : List Int) (n i : Int) : Fr := [(1, .ptr 0 0), (3, .obj 1 0), (20, .int .i64 n), (21, .int .i64 i)]
noncomputable def hp_impl_ValidShape_5 (ns : List NodeD) (us : List Int) (n i : Int) : Heap := [.box [.vec tN ns], .sl 0 tI us]
theorem r_impl_ValidShape_5 (ns : List NodeD) (us : List Int) (n i : Int) (Kn : Fr → Heap → Prop) (K : V → Heap → Prop) : round c_impl_ValidShape ⟨[1,3,20,21],2,false⟩ (lb c_impl_ValidShape 5 Try.f33) (fr_impl_ValidShape_5 ns us n i) (hp_impl_ValidShape_5 ns us n i) Kn (lk c_impl_ValidShape 5 Try.f33 [] K) =
  cond (decide (i < n))
    (cond (decide (0 ≤ i))
      ((match ns[Int.toNat i]? with
        | some y0 => cond (!numsB (Prod.fst y0) (Prod.snd (Prod.snd (Prod.snd y0))))
          (K (.bool false) [])
          (cond (!axB (Prod.fst y0) (Prod.fst (Prod.snd y0)) (Prod.fst (Prod.snd (Prod.snd y0))))
            (K (.bool false) [])
            (LoopE c_impl_ValidShape ⟨[1, 3, 4, 20, 21, 44, 45, 46], 2, false⟩ (pathB c_impl_ValidShape [5, 11] (bodyOf Try.f33)) [(1, (.ptr 0 0)), (3, (.obj 1 0)), (4, (.int .i64 (i))), (20, (.int .i64 (n))), (21, (.int .i64 (i))), (44, (.vec (.int .i64) (kids (Prod.fst y0) (Prod.fst (Prod.snd y0)) (Prod.fst (Prod.snd (Prod.snd y0)))))), (45, (.int .i64 ((↑(List.length (kids (Prod.fst y0) (Prod.fst (Prod.snd y0)) (Prod.fst (Prod.snd (Prod.snd y0))))) : Int)))), (46, (.int .i64 0))] [(.box [(.vec tN (ns))]), (.sl 0 (.int .i64) (us))] (pathK c_impl_ValidShape [(5, ⟨[1,3,20,21],2,false⟩, Kn)] 11 (bodyOf Try.f33) (kFn c_impl_ValidShape Try.f33 [] K))))
        | none => False))
      (False))
    (cond (decide (0 ≤ IntKind.wrap IntKind.i64 ((↑(List.length us) : Int) - 1)) && Nat.blt (Int.toNat (IntKind.wrap IntKind.i64 ((↑(List.length us) : Int) - 1))) (List.length us))
      ((match us[Int.toNat (IntKind.wrap IntKind.i64 ((↑(List.length us) : Int) - 1))]? with
        | some x1 => cond (x1 == 0)
          (cond (decide (0 ≤ 0) && (decide (0 ≤ IntKind.wrap IntKind.i64 ((↑(List.length us) : Int) - 1)) && decide (IntKind.wrap IntKind.i64 ((↑(List.length us) : Int) - 1) ≤ (↑(List.length us) : Int))))
            (K (.bool (!List.any (List.drop 0 (List.take (Int.toNat (IntKind.wrap IntKind.i64 ((↑(List.length us) : Int) - 1))) us)) fun x => x != 1)) [])
            (False))
          (K (.bool false) [])
        | none => False))
      (False)) := by kernel_rfl
noncomputable def fr_impl_ValidShape_11 (ns : List NodeD) (us : List Int) (n i p : Int) (cs : List Int) (m j : Int) : Fr := [(1, .ptr 0 0), (3, .obj 1 0), (4, .int .i64 p), (20, .int .i64 n), (21, .int .i64 i), (44, .vec tI cs), (45, .int .i64 m), (46, .int .i64 j)]
noncomputable def hp_impl_ValidShape_11 (ns : List NodeD) (us : List Int) (n i p : Int) (cs : List Int) (m j : Int) : Heap := [.box [.vec tN ns], .sl 0 tI us]
theorem r_impl_ValidShape_11 (ns : List NodeD) (us : List Int) (n i p : Int) (cs : List Int) (m j : Int) (Kn5 : Fr → Heap → Prop) (Kn : Fr → Heap → Prop) (K : V → Heap → Prop) : round c_impl_ValidShape ⟨[1,3,4,20,21,44,45,46],2,false⟩ (pathB c_impl_ValidShape [5, 11] (bodyOf Try.f33)) (fr_impl_ValidShape_11 ns us n i p cs m j) (hp_impl_ValidShape_11 ns us n i p cs m j) Kn (pathK c_impl_ValidShape [(5, ⟨[1,3,20,21],2,false⟩, Kn5)] 11 (bodyOf Try.f33) (kFn c_impl_ValidShape Try.f33 [] K)) =
  cond (decide (j < m))
    (cond (decide (0 ≤ j))
      ((match cs[Int.toNat j]? with
        | some y0 => cond (!inR y0 0 (IntKind.wrap IntKind.i64 (p - 1)))
          (K (.bool false) [])
          (cond (decide (0 ≤ y0) && Nat.blt (Int.toNat y0) (List.length us))
            ((match us[Int.toNat y0]? with
              | some x1 => cond (decide (0 ≤ y0) && Nat.blt (Int.toNat y0) (List.length us))
                ((match us[Int.toNat y0]? with
                  | some x2 => Kn [(1, (.ptr 0 0)), (3, (.obj 1 0)), (4, (.int .i64 (p))), (20, (.int .i64 (n))), (21, (.int .i64 (i))), (44, (.vec (.int .i64) (cs))), (45, (.int .i64 (m))), (46, (.int .i64 (IntKind.wrap IntKind.i64 (j + 1))))] [(.box [(.vec tN (ns))]), (.sl 0 (.int .i64) (List.set us (Int.toNat y0) (IntKind.wrap IntKind.i64 (x1 + 1))))]
                  | none => False))
                (False)
              | none => False))
            (False))
        | none => False))
      (False))
    (Kn5 [(1, (.ptr 0 0)), (3, (.obj 1 0)), (20, (.int .i64 (n))), (21, (.int .i64 (IntKind.wrap IntKind.i64 (i + 1))))] [(.box [(.vec tN (ns))]), (.sl 0 (.int .i64) (us))]) := by kernel_rfl
theorem w_impl_ValidShape (ns : List NodeD) (K : V → Heap → Prop) : wpFn c_impl_ValidShape Try.f33 (encAs [.agg (.slice tN)] (ns, ())) [] K =
  cond (!inR (↑(List.length ns) : Int) 1 16)
    (K (.bool false) [])
    (cond (decide (0 ≤ (↑(List.length ns) : Int)) && (decide ((↑(List.length ns) : Int) ≤ (↑(List.length ns) : Int)) && decide ((↑8 : Int) * (↑(List.length ns) : Int) ≤ 281474976710656)))
      (LoopE c_impl_ValidShape ⟨[1, 3, 20, 21], 2, false⟩ (lb c_impl_ValidShape 5 Try.f33) [(1, (.ptr 0 0)), (3, (.obj 1 0)), (20, (.int .i64 ((↑(List.length ns) : Int)))), (21, (.int .i64 0))] [(.box [(.vec tN (ns))]), (.sl 0 (.int .i64) (List.replicate (Int.toNat (↑(List.length ns) : Int)) 0))] (lk c_impl_ValidShape 5 Try.f33 [] K))
      (False)) := by kernel_rfl
noncomputable def s_impl_ValidShape : Sm := semT [.agg (.slice tN)] fun x => match x with | (ns, _) => .bool (validS ns)
theorem ok_impl_ValidShape : FnOk Try.prog 33 s_impl_ValidShape := fnOk_typed (fnOk_runC (C := c_impl_ValidShape) rfl mixed (.cons ok_impl_in (.cons ok_impl_numbersOk (.cons ok_impl_axisOk (.cons ok_impl_childrenOf (.cons ok_slices_ContainsFunc__int_vone .nil))))) .nil .nil Try.func33 (by kernel_rfl)) fun (x : ((List NodeD) × Unit)) wf K h => by
  obtain ⟨ns, ⟨⟩⟩ := x
  replace h : K (.bool (validS ns)) [] := h
  rw [w_impl_ValidShape ns K]
  cases hin : inR (ns.length : Int) 1 16 with
  | false =>
    have : validS ns = false := by unfold validS; rw [hin]; rfl
    rw [this] at h
    exact h
  | true =>
    have hr := inR_iff.1 hin
    simp only [Bool.not_true, cond_false, Int.toNat_natCast]
    have e8 : 8 * (ns.length : Int) ≤ 281474976710656 := by omega
    simp only [d_0, Int.le_refl, decide_true, e8, Bool.and_self, cond_true]
    refine loop_run (σ := Nat) (fun i => fr_impl_ValidShape_5 ns [] ns.length i) (fun i => hp_impl_ValidShape_5 ns (usesAt ns i) ns.length i) (fun i => i ≤ ns.length ∧ OkUp ns i) (fun i => ns.length - i) ?_ 0 ⟨Nat.zero_le _, fun j n hj => by omega⟩
    intro i hi Kn5 hk5
    obtain ⟨u1, u2, u3⟩ := uses_facts i hi.1 hi.2
    rw [show fr_impl_ValidShape_5 ns [] ns.length i = fr_impl_ValidShape_5 ns (usesAt ns i) ns.length i from rfl, r_impl_ValidShape_5 ns (usesAt ns i) ns.length i Kn5 K]
    by_cases hlt : i < ns.length
    · simp only [d_lt hlt, d_0, cond_true, Int.toNat_natCast, get_lt hlt]
      generalize hy : ns[i]'hlt = y
      obtain ⟨k, a, b, xs⟩ := y
      have no : nodeB i (k, a, b, xs) = false → K (.bool false) [] := fun e => by
        rw [valid_no hlt (by rw [hy]; exact e)] at h
        exact h
      cases e1 : numsB k xs with
      | false => exact no (by unfold nodeB; simp only [e1, Bool.false_and])
      | true =>
        simp only [Bool.not_true, cond_false]
        cases e2 : axB k a b with
        | false => exact no (by unfold nodeB; simp only [e1, e2, Bool.false_and, Bool.and_false])
        | true =>
          simp only [Bool.not_true, cond_false]
          refine loop_run (σ := Nat) (fun j => fr_impl_ValidShape_11 ns [] ns.length i i (kids k a b) (kids k a b).length j) (fun j => hp_impl_ValidShape_11 ns (incs (usesAt ns i) ((kids k a b).take j)) 0 0 0 [] 0 0) (fun j => j ≤ (kids k a b).length ∧ ∀ c ∈ (kids k a b).take j, 0 ≤ c ∧ c < (i : Int)) (fun j => (kids k a b).length - j) ?_ 0 ⟨Nat.zero_le _, by simp⟩
          intro j hj Kn hk
          have hk2 : (kids k a b).length ≤ 2 := kids_len (k, a, b, xs)
          obtain ⟨v1, v2, v3⟩ := incs_facts (i := i) ((kids k a b).take j) (u := usesAt ns i) (B := 2 * (i : Int)) (fun c hc => hj.2 c hc) u2 (by omega)
          rw [show fr_impl_ValidShape_11 ns [] ns.length i i (kids k a b) (kids k a b).length j = fr_impl_ValidShape_11 ns (incs (usesAt ns i) ((kids k a b).take j)) ns.length i i (kids k a b) (kids k a b).length j from rfl,
            show hp_impl_ValidShape_11 ns (incs (usesAt ns i) ((kids k a b).take j)) 0 0 0 [] 0 0 = hp_impl_ValidShape_11 ns (incs (usesAt ns i) ((kids k a b).take j)) ns.length i i (kids k a b) (kids k a b).length j from rfl,
            r_impl_ValidShape_11 ns (incs (usesAt ns i) ((kids k a b).take j)) ns.length i i (kids k a b) (kids k a b).length j Kn5 Kn K]
          by_cases hjl : j < (kids k a b).length
          · simp only [d_lt hjl, d_0, cond_true, Int.toNat_natCast, get_lt hjl]
            rw [i64_of (n := (i : Int) - 1) (by omega) (by omega)]
            generalize hc : (kids k a b)[j]'hjl = c
            cases e3 : inR c 0 ((i : Int) - 1) with
            | false =>
              refine no ?_
              have : (kidsN (k, a, b, xs)).all (fun c => inR c 0 ((i : Int) - 1)) = false := List.all_eq_false.2 ⟨c, by rw [← hc]; exact List.getElem_mem hjl, by rw [e3]; simp⟩
              unfold nodeB
              rw [this, Bool.and_false, Bool.and_false]
            | true =>
              have hcr := inR_iff.1 e3
              have hcl : c.toNat < (incs (usesAt ns i) ((kids k a b).take j)).length := by rw [v1, u1]; omega
              simp only [Bool.not_true, cond_false, d_t hcr.1, blt_t hcl, Bool.and_self, cond_true, get_lt hcl]
              have hx := v2 _ (List.getElem_mem hcl)
              have hjt : ((kids k a b).take j).length ≤ 2 := by rw [List.length_take]; omega
              rw [i64_of (n := (incs (usesAt ns i) ((kids k a b).take j))[c.toNat]'hcl + 1) (by omega) (by omega), i64_of (by omega) (by omega)]
              have := hk (j + 1) ⟨hjl, fun c' hc' => by
                rw [take_one hjl, List.mem_append] at hc'
                rcases hc' with hc' | hc'
                · exact hj.2 c' hc'
                · rw [List.mem_singleton, hc] at hc'; omega⟩ (by omega)
              rw [show hp_impl_ValidShape_11 ns (incs (usesAt ns i) ((kids k a b).take (j + 1))) 0 0 0 [] 0 0 = [.box [.vec tN ns], .sl 0 tI ((incs (usesAt ns i) ((kids k a b).take j)).set c.toNat ((incs (usesAt ns i) ((kids k a b).take j))[c.toNat]'hcl + 1))] by
                rw [incs_take _ hjl, hc]
                unfold inc1
                rw [get_lt hcl]
                rfl] at this
              exact this
          · simp only [d_nlt hjl, cond_false]
            rw [i64_of (by omega) (by omega)]
            have hall : (kids k a b).take j = kids k a b := List.take_of_length_le (by omega)
            have hn : nodeB i (k, a, b, xs) = true := by
              unfold nodeB
              rw [e1, e2, Bool.true_and, Bool.true_and]
              refine List.all_eq_true.2 fun c hc => inR_iff.2 ?_
              have := hj.2 c (by rw [hall]; exact hc)
              omega
            have := hk5 (i + 1) ⟨hlt, okUp_succ hlt hi.2 (by rw [hy]; exact hn)⟩ (by omega)
            rw [show hp_impl_ValidShape_5 ns (usesAt ns (i + 1)) ns.length ((i + 1 : Nat) : Int) = [.box [.vec tN ns], .sl 0 tI (incs (usesAt ns i) ((kids k a b).take j))] by
              rw [usesAt_succ hlt, hy, hall]; rfl] at this
            exact this
    · have : i = ns.length := by omega
      subst this
      simp only [d_nlt hlt, cond_false]
      rw [u1, i64_of (n := (ns.length : Int) - 1) (by omega) (by omega), show ((ns.length : Int) - 1).toNat = ns.length - 1 by omega]
      have hl : ns.length - 1 < (usesAt ns ns.length).length := by rw [u1]; omega
      have h0 := u3 (ns.length - 1) _ (by omega) (get_lt hl)
      rw [u1] at hl
      simp only [d_t (show (0 : Int) ≤ (ns.length : Int) - 1 by omega), blt_t hl, Bool.and_self, cond_true]
      rw [get_lt (by rw [u1]; exact hl), h0]
      simp only [beq_self_eq_true, cond_true, d_t (show (0 : Int) ≤ 0 by decide), d_t (show (ns.length : Int) - 1 ≤ (ns.length : Int) by omega), Bool.and_self, List.drop_zero]
      rw [all_one, ← valid_last hin hi.2]
      exact h

/-! spec.l02Count -/
/-! spec.l02Leaf -/
/-! spec.l02Two -/
/-! spec.l02Axis -/
/-! spec.l01Finite -/
end Go.Proofs.Ytfhpmcdbfebflaa

/- Shapes and lists of shapes, as the laws copy, count and compare them. -/
set_option linter.unusedVariables false
set_option linter.unusedSimpArgs false
set_option maxRecDepth 100000
namespace Go.Proofs.Ytfhpmcdbfebflaa
open Go.Ev

--B wNode NodeD → Nat
def wNode (n : NodeD) : Nat := n.2.2.2.length
abbrev tS : Ty := .slice tN
abbrev ShapeD := List NodeD
--B wShape ShapeD → Nat
def wShape (s : ShapeD) : Nat := wList wNode s











end Go.Proofs.Ytfhpmcdbfebflaa

/- Plain: shapes that are made by a stack of free nodes are valid. -/
set_option linter.unusedVariables false
set_option linter.unusedSimpArgs false
set_option maxRecDepth 100000
namespace Go.Proofs.Ytfhpmcdbfebflaa
open Go.Ev

/-! how often a node is a child -/
theorem inc1_get (u : List Int) (c : Int) (hc : 0 ≤ c) (p : Nat) (hp : p < u.length) : (inc1 u c)[p]? = some ((u[p]'hp) + (if c = (p : Int) then 1 else 0)) := by
  unfold inc1
  by_cases e : c = (p : Int)
  · subst e
    rw [Int.toNat_natCast, List.getElem?_set_self hp, List.getElem?_eq_getElem hp]
    simp
  · rw [List.getElem?_set_ne (by omega), List.getElem?_eq_getElem hp, if_neg e, Int.add_zero]
theorem inc1_len (u : List Int) (c : Int) : (inc1 u c).length = u.length := by unfold inc1; exact List.length_set
theorem incs_len : ∀ (cs : List Int) (u : List Int), (incs u cs).length = u.length
  | [], _ => rfl
  | c :: cs, u => (incs_len cs (inc1 u c)).trans (inc1_len u c)
theorem incs_get : ∀ (cs : List Int) (u : List Int), (∀ c ∈ cs, 0 ≤ c) → ∀ (p : Nat) (hp : p < u.length), (incs u cs)[p]? = some ((u[p]'hp) + (cs.count (p : Int) : Nat))
  | [], u, _, p, hp => by
    show u[p]? = _
    rw [List.getElem?_eq_getElem hp]
    simp
  | c :: cs, u, h, p, hp => by
    have hp' : p < (inc1 u c).length := by rw [inc1_len]; exact hp
    have h1 := inc1_get u c (h c (by simp)) p hp
    have h2 := incs_get cs (inc1 u c) (fun c' hc' => h c' (by simp [hc'])) p hp'
    show (incs (inc1 u c) cs)[p]? = _
    rw [h2]
    congr 1
    have h3 : (inc1 u c)[p]'hp' = (u[p]'hp) + (if c = (p : Int) then 1 else 0) := by
      have := inc1_get u c (h c (by simp)) p hp
      rw [List.getElem?_eq_getElem hp'] at this
      exact Option.some.inj this
    rw [h3, List.count_cons]
    by_cases e : c = (p : Int)
    · rw [if_pos e, e, beq_self_eq_true, if_pos rfl]; omega
    · rw [if_neg e, beq_eq_false_iff_ne.2 e, if_neg (by decide)]; omega
theorem uses_len (ns : List NodeD) (u : List Int) : (usesOf ns u).length = u.length := by
  unfold usesOf
  induction ns generalizing u with
  | nil => rfl
  | cons n r ih => rw [List.foldl_cons, ih, incs_len]
theorem uses_get (ns : List NodeD) : ∀ (u : List Int), (∀ n ∈ ns, ∀ c ∈ kidsN n, 0 ≤ c) → ∀ (p : Nat) (hp : p < u.length), (usesOf ns u)[p]? = some ((u[p]'hp) + ((ns.flatMap kidsN).count (p : Int) : Nat)) := by
  induction ns with
  | nil =>
    intro u _ p hp
    show u[p]? = _
    rw [List.getElem?_eq_getElem hp]
    simp
  | cons n r ih =>
    intro u h p hp
    have hp' : p < (incs u (kidsN n)).length := by rw [incs_len]; exact hp
    have h1 := incs_get (kidsN n) u (h n (by simp)) p hp
    have h2 := ih (incs u (kidsN n)) (fun m hm => h m (by simp [hm])) p hp'
    show (usesOf r (incs u (kidsN n)))[p]? = _
    rw [h2]
    rw [List.getElem?_eq_getElem hp'] at h1
    rw [Option.some.inj h1, List.flatMap_cons, List.count_append]
    congr 1
    omega

/-! nodes and the free ones among them -/
def upTo (n : Nat) : List Int := (List.range n).map Int.ofNat
theorem upTo_mem {n : Nat} {x : Int} (h : x ∈ upTo n) : 0 ≤ x ∧ x < n := by
  unfold upTo at h
  obtain ⟨i, hi, rfl⟩ := List.mem_map.1 h
  have := List.mem_range.1 hi
  exact ⟨Int.natCast_nonneg i, by show (i : Int) < n; omega⟩
theorem upTo_succ (n : Nat) : upTo (n + 1) = upTo n ++ [(n : Int)] := by
  unfold upTo
  rw [List.range_succ, List.map_append]
  rfl
theorem upTo_count (n p : Nat) (h : p < n) : (upTo n).count (p : Int) = 1 := by
  induction n with
  | zero => omega
  | succ n ih =>
    rw [upTo_succ, List.count_append, List.count_cons, List.count_nil]
    by_cases e : p = n
    · subst e
      have : (upTo p).count (p : Int) = 0 := List.count_eq_zero.2 fun hm => by have := upTo_mem hm; omega
      rw [this, beq_self_eq_true, if_pos rfl]
    · rw [ih (by omega), beq_eq_false_iff_ne.2 (by omega), if_neg (by decide)]
structure Stack (ns : List NodeD) (fr : List Int) : Prop where
  nodes : ∀ (j : Nat) (n : NodeD), ns[j]? = some n → nodeB j n = true
  perm : (ns.flatMap kidsN ++ fr).Perm (upTo ns.length)
  last : ns ≠ [] → fr.getLast? = some ((ns.length : Int) - 1)
theorem Stack.free {ns : List NodeD} {fr : List Int} (h : Stack ns fr) : ∀ c ∈ fr, 0 ≤ c ∧ c < ns.length := fun c hc =>
  upTo_mem (h.perm.subset (List.mem_append_right _ hc))
theorem Stack.kids {ns : List NodeD} {fr : List Int} (h : Stack ns fr) : ∀ n ∈ ns, ∀ c ∈ kidsN n, 0 ≤ c := fun n hn c hc =>
  (upTo_mem (h.perm.subset (List.mem_append_left _ (List.mem_flatMap.2 ⟨n, hn, hc⟩)))).1
theorem Stack.len {ns : List NodeD} {fr : List Int} (h : Stack ns fr) : fr.length ≤ ns.length := by
  have := h.perm.length_eq
  rw [List.length_append] at this
  unfold upTo at this
  rw [List.length_map, List.length_range] at this
  omega
theorem Stack.push {ns : List NodeD} {fr rest : List Int} (h : Stack ns fr) {n : NodeD} (hf : fr = rest ++ kidsN n) (hn : nodeB ns.length n = true) : Stack (ns ++ [n]) (rest ++ [(ns.length : Int)]) := by
  refine ⟨fun j m hj => ?_, ?_, fun _ => by simp⟩
  · rcases Nat.lt_or_ge j ns.length with hl | hl
    · rw [List.getElem?_append_left hl] at hj
      exact h.nodes j m hj
    · rw [List.getElem?_append_right hl] at hj
      have hj0 := lt_of_get hj
      simp only [List.length_singleton] at hj0
      have : j = ns.length := by omega
      subst this
      rw [Nat.sub_self] at hj
      cases hj
      exact hn
  · have hp := h.perm
    rw [hf] at hp
    rw [List.length_append, List.length_singleton, upTo_succ, List.flatMap_append, List.flatMap_singleton]
    refine List.Perm.trans ?_ (hp.append_right _)
    rw [List.append_assoc, List.append_assoc]
    refine List.Perm.append_left _ ?_
    rw [← List.append_assoc]
    exact List.Perm.append_right _ List.perm_append_comm
theorem Stack.valid {ns : List NodeD} {r : Int} (h : Stack ns [r]) (h1 : 1 ≤ ns.length) (h2 : ns.length ≤ 16) : validS ns = true := by
  have hr : r = (ns.length : Int) - 1 := by
    have := h.last (fun e => by rw [e] at h1; simp at h1)
    simpa using this
  unfold validS
  simp only [Bool.and_eq_true]
  refine ⟨inR_iff.2 (by omega), ?_, ?_⟩
  · exact okUp_all fun j n _ hj => h.nodes j n hj
  · refine List.all_eq_true.2 fun x hx => ?_
    obtain ⟨p, hp, rfl⟩ := List.mem_iff_getElem.1 hx
    have hul : (usesAt ns ns.length).length = ns.length := by
      unfold usesAt
      rw [uses_len, List.length_replicate]
    rw [List.length_take, hul] at hp
    rw [List.getElem_take]
    have hu := uses_get ns (List.replicate ns.length 0) h.kids p (by rw [List.length_replicate]; omega)
    have e0 : usesAt ns ns.length = usesOf ns (List.replicate ns.length 0) := by unfold usesAt; rw [List.take_length]
    have hpp : p < (usesAt ns ns.length).length := by rw [hul]; omega
    have hc : (ns.flatMap kidsN ++ [r]).count (p : Int) = 1 := by rw [h.perm.count_eq]; exact upTo_count _ _ (by omega)
    rw [List.count_append, List.count_cons, List.count_nil, beq_eq_false_iff_ne.2 (by omega), if_neg (by decide)] at hc
    rw [← e0, List.getElem?_eq_getElem hpp] at hu
    rw [Option.some.inj hu, List.getElem_replicate]
    simp only [beq_iff_eq]
    omega

/-! the numbers of nodes -/
def quartV (n : Int) : Nat := fdiv .f32 (FloatKind.f32.nearest n) 1082130432
def sixtV (n : Int) : Nat := fdiv .f32 (FloatKind.f32.nearest n) 1098907648
--B sizeV Nat → Nat
def sizeV (x : Nat) : Nat := bif fle .f32 x 0 then fsub .f32 0 x else x
end Go.Proofs.Ytfhpmcdbfebflaa

/- Plain: what the laws draw: numbers, nodes, shapes, keys, things, scenes; all are valid. -/
set_option linter.unusedVariables false
set_option linter.unusedSimpArgs false
set_option maxRecDepth 100000
namespace Go.Proofs.Ytfhpmcdbfebflaa
open Go.Ev

/-! how far a source is read -/
--B inS Int → SrcD → Bool
def inS (n : Int) (s : SrcD) : Bool := decide (0 ≤ s.2.1) && decide (s.2.1 ≤ n)
theorem inS_iff {n : Int} {s : SrcD} : inS n s = true ↔ 0 ≤ s.2.1 ∧ s.2.1 ≤ n := by unfold inS; simp
structure Far (s t : SrcD) (n : Int) : Prop where
  b : t.1 = s.1
  lo : s.2.1 ≤ t.2.1
  hi : t.2.1 ≤ s.2.1 + n
theorem Far.refl (s : SrcD) : Far s s 0 := ⟨rfl, Int.le_refl _, by omega⟩
theorem Far.trans {s t u : SrcD} {n m : Int} (h : Far s t n) (h' : Far t u m) : Far s u (n + m) := ⟨h'.b.trans h.b, by have := h.lo; have := h'.lo; omega, by have := h.hi; have := h'.hi; omega⟩
theorem Far.mono {s t : SrcD} {n m : Int} (h : Far s t n) (hm : n ≤ m) : Far s t m := ⟨h.b, h.lo, by have := h.hi; omega⟩
theorem Far.ok {s t : SrcD} {n k m : Int} (h : Far s t n) (hs : inS k s = true) (hm : k + n ≤ m) : inS m t = true := by
  rw [inS_iff] at hs ⊢
  have := h.lo; have := h.hi; omega
theorem Far.bytes {s t : SrcD} {n : Int} (h : Far s t n) (hb : bytes s.1) : bytes t.1 := by rw [h.b]; exact hb
/-! numbers -/
--B smallV SrcD → Nat
def smallV (s : SrcD) : Nat := quartV (pickV s 33 - 16)
--B smallS SrcD → SrcD
def smallS (s : SrcD) : SrcD := pickS s 33
def sizeK (k : Int) : Bool := kindS k == 1
def posK (k : Int) : Bool := kindS k == 2
--B nuV Int → SrcD → Nat
def nuV (k : Int) (s : SrcD) : Nat := bif sizeK k then sizeV (smallV s) else bif posK k then quartV (1 + pickV (smallS s) 8) else bif k == 12 then sixtV (pickV (smallS s) 17 - 8) else smallV s
--B nuS Int → SrcD → SrcD
def nuS (k : Int) (s : SrcD) : SrcD := bif sizeK k then smallS s else bif posK k then pickS (smallS s) 8 else bif k == 12 then pickS (smallS s) 17 else smallS s
def nusL : Int → Nat → SrcD → List Nat
  | _, 0, _ => []
  | k, n + 1, s => nuV k s :: nusL k n (nuS k s)
def nusN : Int → Nat → SrcD → SrcD
  | _, 0, s => s
  | k, n + 1, s => nusN k n (nuS k s)
--B numsV Int → SrcD → List Nat
def numsV (k : Int) (s : SrcD) : List Nat := nusL k (kindN k).toNat s
--B numsS Int → SrcD → SrcD
def numsS (k : Int) (s : SrcD) : SrcD := nusN k (kindN k).toNat s
/-! nodes -/
def dn2 (f : List Int) (s : SrcD) : Bool := decide (2 ≤ f.length) && pickV (pickS s 5) 2 == 0
def dnS1 (f : List Int) (s : SrcD) : SrcD := bif decide (2 ≤ f.length) then pickS (pickS s 5) 2 else pickS s 5
def dn1 (f : List Int) (s : SrcD) : Bool := decide (1 ≤ f.length) && pickV (dnS1 f s) 2 == 0
def dnS2 (f : List Int) (s : SrcD) : SrcD := bif decide (1 ≤ f.length) then pickS (dnS1 f s) 2 else dnS1 f s
def dnK (f : List Int) (s : SrcD) : Int := bif dn2 f s then 5 + pickV (dnS1 f s) 4 else bif dn1 f s then 9 + pickV (dnS2 f s) 8 else pickV s 5
def dnX (f : List Int) (s : SrcD) : Bool := inR (dnK f s) 12 14
def dnT (f : List Int) (s : SrcD) : SrcD := bif dn2 f s then pickS (dnS1 f s) 4 else bif dn1 f s then (bif dnX f s then pickS (pickS (dnS2 f s) 8) 3 else pickS (dnS2 f s) 8) else dnS2 f s
def at2 (f : List Int) (i : Nat) : Int := (f[f.length - i]?).getD 0
def dnA (f : List Int) (s : SrcD) : Int := bif dn2 f s then at2 f 2 else bif dn1 f s then at2 f 1 else 0
def dnB (f : List Int) (s : SrcD) : Int := bif dn2 f s then at2 f 1 else bif dn1 f s then (bif dnX f s then pickV (pickS (dnS2 f s) 8) 3 else 0) else 0
--B usedV List Int → SrcD → Int
def usedV (f : List Int) (s : SrcD) : Int := bif dn2 f s then 2 else bif dn1 f s then 1 else 0
--B nodeV List Int → SrcD → NodeD
def nodeV (f : List Int) (s : SrcD) : NodeD := (dnK f s, dnA f s, dnB f s, numsV (dnK f s) (dnT f s))
--B nodeS List Int → SrcD → SrcD
def nodeS (f : List Int) (s : SrcD) : SrcD := numsS (dnK f s) (dnT f s)
/-! shapes -/
abbrev ShD := List NodeD × List Int × SrcD
def shStep (q : ShD) : ShD := (q.1 ++ [nodeV q.2.1 q.2.2], q.2.1.take ((q.2.1.length : Int) - usedV q.2.1 q.2.2).toNat ++ [(q.1.length : Int)], nodeS q.2.1 q.2.2)
def shGo : Nat → ShD → ShD
  | 0, q => q
  | n + 1, q => shGo n (shStep q)
def clNode (q : ShD) : NodeD := (5 + pickV q.2.2 3, at2 q.2.1 2, at2 q.2.1 1, [])
def clStep (q : ShD) : ShD := (q.1 ++ [clNode q], q.2.1.take (q.2.1.length - 2) ++ [(q.1.length : Int)], pickS q.2.2 3)
def clGo : Nat → ShD → ShD
  | 0, q => q
  | n + 1, q => clGo n (clStep q)
def sh0 (s : SrcD) : ShD := ([], [], pickS s 7)
def sh1 (s : SrcD) : ShD := shGo (1 + pickV s 7).toNat (sh0 s)
def sh2 (s : SrcD) : ShD := clGo ((sh1 s).2.1.length - 1) (sh1 s)
--B shapeV SrcD → List NodeD
def shapeV (s : SrcD) : List NodeD := (sh2 s).1
--B shapeS SrcD → SrcD
def shapeS (s : SrcD) : SrcD := (sh2 s).2.2
structure ShOk (q : ShD) (n : Nat) : Prop where
  st : Stack q.1 q.2.1
  b : bytes q.2.2.1
  l : q.1.length = n
end Go.Proofs.Ytfhpmcdbfebflaa

/- What the laws draw: walks of shapes. -/
set_option linter.unusedVariables false
set_option linter.unusedSimpArgs false
set_option maxRecDepth 100000
namespace Go.Proofs.Ytfhpmcdbfebflaa
open Go.Ev

/-! spec.l01DrawSmall -/
/-! spec.l02Size -/
/-! spec.l00Own -/
/-! spec.l02DrawNumbers -/
/-! spec.l02DrawNode -/
/-! spec.l02DrawOk -/
end Go.Proofs.Ytfhpmcdbfebflaa

/- Floats as rational numbers: rungs and their magnitudes, and to what rung a number is rounded. -/
set_option linter.unusedVariables false
namespace Go.Ev
open Ieee

/-- A power of two. -/
def pw (e : Int) : Rat := (2 : Rat) ^ e
theorem pw_pos (e : Int) : 0 < pw e := Rat.zpow_pos (by decide)
theorem pw_add (a b : Int) : pw (a + b) = pw a * pw b := Rat.zpow_add (by decide) a b
theorem pw_nat (n : Nat) : pw (n : Int) = ((2 ^ n : Nat) : Rat) := by
  unfold pw
  rw [Rat.zpow_natCast]
  induction n with
  | zero => rfl
  | succ n ih => rw [Rat.pow_succ, ih, Nat.pow_succ, Rat.natCast_mul]; rfl
theorem pw_zero : pw 0 = 1 := Rat.zpow_zero _
theorem pw_succ (e : Int) : pw (e + 1) = 2 * pw e := by
  rw [pw_add, Rat.mul_comm]; congr 1
theorem pw_le {a b : Int} (h : a ≤ b) : pw a ≤ pw b := by
  obtain ⟨n, rfl⟩ : ∃ n : Nat, b = a + n := ⟨(b - a).toNat, by omega⟩
  rw [pw_add, pw_nat]
  have h1 := pw_pos a
  have h2 : (1 : Rat) ≤ ((2 ^ n : Nat) : Rat) := by
    have := Nat.two_pow_pos n
    exact_mod_cast this
  calc pw a = pw a * 1 := by grind
    _ ≤ _ := Rat.mul_le_mul_of_nonneg_left h2 (Rat.le_of_lt h1)

namespace Fl
variable (f : Format)

theorem B0 : 0 < f.binade := Nat.two_pow_pos _

/-- The magnitude of a rung, in units of the least place. -/
def mgN (r : Nat) : Nat := if r < f.binade then r else (f.binade + r % f.binade) * 2 ^ (r / f.binade - 1)
/-- The magnitude of a rung. -/
def mg (r : Nat) : Rat := (mgN f r : Rat) * pw f.leastPlace

theorem mgN_at (p j : Nat) (hj : j ≤ 2 * f.binade) (h : p = 0 ∨ f.binade ≤ j) : mgN f (p * f.binade + j) = j * 2 ^ p := by
  have b0 := B0 f
  unfold mgN
  generalize f.binade = B at *
  by_cases h1 : j < B
  · have : p = 0 := by omega
    subst this
    rw [if_pos (by omega)]
    simp
  · by_cases h2 : j = 2 * B
    · subst h2
      have e : p * B + 2 * B = (p + 2) * B := by rw [Nat.add_mul]
      have e3 : B ≤ (p + 2) * B := Nat.le_mul_of_pos_left B (by omega)
      rw [e, if_neg (by omega), Nat.mul_mod_left, Nat.mul_div_cancel _ b0]
      have : p + 2 - 1 = p + 1 := by omega
      rw [this, Nat.pow_succ, Nat.add_zero, Nat.mul_comm 2 B, Nat.mul_assoc, Nat.mul_comm 2 (2 ^ p)]
    · obtain ⟨t, rfl⟩ : ∃ t, j = B + t := ⟨j - B, by omega⟩
      have e : p * B + (B + t) = t + B * (p + 1) := by rw [Nat.mul_add, Nat.mul_comm]; omega
      have e3 : B ≤ B * (p + 1) := Nat.le_mul_of_pos_right B (by omega)
      rw [e, if_neg (by omega), Nat.add_mul_mod_self_left, Nat.mod_eq_of_lt (by omega), Nat.add_mul_div_left _ _ b0, Nat.div_eq_of_lt (by omega)]
      simp

/-- Each rung in its scale. -/
theorem scale (r : Nat) : ∃ p j, r = p * f.binade + j ∧ j < 2 * f.binade ∧ (p = 0 ∨ f.binade ≤ j) := by
  have b0 := B0 f
  generalize f.binade = B at *
  by_cases h : r < B
  · exact ⟨0, r, by omega, by omega, .inl rfl⟩
  · have h1 := Nat.div_add_mod r B
    have h2 := Nat.mod_lt r b0
    have h3 : 1 ≤ r / B := (Nat.one_le_div_iff b0).2 (by omega)
    refine ⟨r / B - 1, B + r % B, ?_, by omega, .inr (by omega)⟩
    have : r / B = r / B - 1 + 1 := by omega
    rw [this, Nat.mul_add, Nat.mul_comm] at h1
    omega

theorem mgN_lt_succ (r : Nat) : mgN f r < mgN f (r + 1) := by
  obtain ⟨p, j, e, h1, h2⟩ := scale f r
  subst e
  rw [mgN_at f p j (by omega) h2, Nat.add_assoc, mgN_at f p (j + 1) (by omega) (by omega)]
  exact Nat.mul_lt_mul_of_pos_right (by omega) (Nat.two_pow_pos _)
theorem mgN_lt {r s : Nat} (h : r < s) : mgN f r < mgN f s := by
  induction s with
  | zero => omega
  | succ s ih =>
    by_cases e : r = s
    · subst e; exact mgN_lt_succ f r
    · exact Nat.lt_trans (ih (by omega)) (mgN_lt_succ f s)
theorem mgN_le {r s : Nat} (h : r ≤ s) : mgN f r ≤ mgN f s := by
  by_cases e : r = s
  · subst e; exact Nat.le_refl _
  · exact Nat.le_of_lt (mgN_lt f (by omega))
theorem mg_lt {r s : Nat} (h : r < s) : mg f r < mg f s :=
  Rat.mul_lt_mul_of_pos_right (Rat.natCast_lt_natCast.2 (mgN_lt f h)) (pw_pos _)
theorem mg_le {r s : Nat} (h : r ≤ s) : mg f r ≤ mg f s :=
  Rat.mul_le_mul_of_nonneg_right (Rat.natCast_le_natCast.2 (mgN_le f h)) (Rat.le_of_lt (pw_pos _))
theorem lt_of_mg {r s : Nat} (h : mg f r < mg f s) : r < s := by
  refine Nat.lt_of_not_le fun h2 => ?_
  have := mg_le f h2
  grind
theorem le_of_mg {r s : Nat} (h : mg f r ≤ mg f s) : r ≤ s := by
  refine Nat.le_of_not_lt fun h2 => ?_
  have := mg_lt f h2
  grind
theorem mg_inj {r s : Nat} (h : mg f r = mg f s) : r = s :=
  Nat.le_antisymm (le_of_mg f (by grind)) (le_of_mg f (by grind))
theorem mg_zero : mg f 0 = 0 := by
  have : mgN f 0 = 0 := by unfold mgN; rw [if_pos (B0 f)]
  unfold mg
  rw [this]
  exact Rat.zero_mul _
theorem mg_nonneg (r : Nat) : 0 ≤ mg f r := by rw [← mg_zero f]; exact mg_le f (Nat.zero_le r)
theorem mg_at (p j : Nat) (hj : j ≤ 2 * f.binade) (h : p = 0 ∨ f.binade ≤ j) : mg f (p * f.binade + j) = (j : Rat) * pw (f.leastPlace + p) := by
  unfold mg
  rw [mgN_at f p j hj h, pw_add, pw_nat, Rat.natCast_mul]
  grind

/-- What Toward.even.cut gives. -/
theorem cut_spec (neg : Bool) (n d : Nat) : 2 * n ≤ (2 * Toward.even.cut neg n d + 1) * 2 ^ d ∧ 2 * (Toward.even.cut neg n d) * 2 ^ d ≤ 2 * n + 2 ^ d ∧
    ((2 * n = (2 * Toward.even.cut neg n d + 1) * 2 ^ d ∨ 2 * (Toward.even.cut neg n d) * 2 ^ d = 2 * n + 2 ^ d) → Toward.even.cut neg n d % 2 = 0) := by
  unfold Toward.cut
  simp only []
  by_cases hd : d ≤ n.log2 + 2
  · rw [Nat.min_eq_left hd, Nat.shiftLeft_eq, Nat.one_mul]
    have g0 := Nat.two_pow_pos d
    generalize 2 ^ d = g at *
    have h1 := Nat.div_add_mod n g
    have h2 := Nat.mod_lt n g0
    generalize n / g = low at *
    generalize n % g = rest at *
    have e1 : (2 * low + 1) * g = 2 * (g * low) + g := by grind
    have e2 : (2 * (low + 1) + 1) * g = 2 * (g * low) + 3 * g := by grind
    have e3 : 2 * low * g = 2 * (g * low) := by grind
    have e4 : 2 * (low + 1) * g = 2 * (g * low) + 2 * g := by grind
    by_cases c1 : g < 2 * rest
    · have : (decide (g < 2 * rest) || g == 2 * rest && low % 2 == 1).toNat = 1 := by simp [c1]
      rw [this, e2, e4]
      refine ⟨by omega, by omega, fun h => ?_⟩
      omega
    · by_cases c2 : g = 2 * rest
      · by_cases c3 : low % 2 = 1
        · have : (decide (g < 2 * rest) || g == 2 * rest && low % 2 == 1).toNat = 1 := by simp [c2, c3]
          rw [this, e2, e4]
          refine ⟨by omega, by omega, fun h => ?_⟩
          omega
        · have : (decide (g < 2 * rest) || g == 2 * rest && low % 2 == 1).toNat = 0 := by simp [c2, c3]
          simp only [this, Nat.add_zero, e1, e3]
          refine ⟨by omega, by omega, fun h => ?_⟩
          omega
      · have : (decide (g < 2 * rest) || g == 2 * rest && low % 2 == 1).toNat = 0 := by simp [c1, c2]
        simp only [this, Nat.add_zero, e1, e3]
        refine ⟨by omega, by omega, fun h => ?_⟩
        omega
  · have hl : n < 2 ^ (n.log2 + 1) := Nat.lt_log2_self
    have hg : 2 ^ (n.log2 + 2) = 2 * 2 ^ (n.log2 + 1) := by rw [Nat.pow_succ, Nat.mul_comm]
    have hp : 2 ^ (n.log2 + 2) ≤ 2 ^ d := Nat.pow_le_pow_right (by omega) (by omega)
    rw [Nat.min_eq_right (by omega), Nat.shiftLeft_eq, Nat.one_mul, Nat.div_eq_of_lt (by omega), Nat.mod_eq_of_lt (by omega)]
    have : (decide (2 ^ (n.log2 + 2) < 2 * n) || 2 ^ (n.log2 + 2) == 2 * n && 0 % 2 == 1).toNat = 0 := by
      rw [decide_eq_false (by omega)]; simp
    rw [this]
    refine ⟨by omega, by omega, fun _ => rfl⟩

/-- The rung that is nearest to a number. -/
def rg (m : Nat) (e : Int) : Nat :=
  if m = 0 then 0 else
  min ((max (e + m.log2 - f.fractionBits) f.leastPlace - f.leastPlace).toNat * f.binade + Toward.even.cut false (m <<< (e - max (e + m.log2 - f.fractionBits) f.leastPlace).toNat) (max (e + m.log2 - f.fractionBits) f.leastPlace - e).toNat) f.infRung

theorem nearest_eq (neg : Bool) (m : Nat) (e : Int) : f.nearest neg m e = f.word neg (rg f m e) := by
  unfold Format.nearest rg
  by_cases h : m = 0
  · rw [if_pos h, if_pos h]
  · rw [if_neg h, if_neg h]
    rfl

/-- To what a number is rounded, in its scale. -/
theorem rg_scale {m : Nat} {e : Int} (hm : m ≠ 0) : ∃ p c : Nat, rg f m e = min (p * f.binade + c) f.infRung ∧ (p = 0 ∨ f.binade ≤ c) ∧ c ≤ 2 * f.binade ∧
    (p = 0 ∨ (f.binade : Rat) * pw (f.leastPlace + p) ≤ (m : Rat) * pw e) ∧ (m : Rat) * pw e < (2 * f.binade : Rat) * pw (f.leastPlace + p) ∧
    2 * ((m : Rat) * pw e) ≤ (2 * c + 1) * pw (f.leastPlace + p) ∧ (2 * c : Rat) * pw (f.leastPlace + p) ≤ 2 * ((m : Rat) * pw e) + pw (f.leastPlace + p) ∧
    ((2 * ((m : Rat) * pw e) = (2 * c + 1) * pw (f.leastPlace + p) ∨ (2 * c : Rat) * pw (f.leastPlace + p) = 2 * ((m : Rat) * pw e) + pw (f.leastPlace + p)) → c % 2 = 0) := by
  unfold rg
  rw [if_neg hm]
  have hlast : f.leastPlace ≤ max (e + m.log2 - f.fractionBits) f.leastPlace := Int.le_max_right _ _
  have hlast2 : e + m.log2 - f.fractionBits ≤ max (e + m.log2 - f.fractionBits) f.leastPlace := Int.le_max_left _ _
  have hlast3 : max (e + m.log2 - f.fractionBits) f.leastPlace = f.leastPlace ∨ max (e + m.log2 - f.fractionBits) f.leastPlace = e + m.log2 - f.fractionBits := by omega
  generalize max (e + m.log2 - f.fractionBits) f.leastPlace = last at *
  obtain ⟨p, hp⟩ : ∃ p : Nat, last = f.leastPlace + p := ⟨(last - f.leastPlace).toNat, by omega⟩
  have hp2 : (last - f.leastPlace).toNat = p := by omega
  rw [hp2]
  have hs := cut_spec false (m <<< (e - last).toNat) (last - e).toNat
  generalize hc : Toward.even.cut false (m <<< (e - last).toNat) (last - e).toNat = c at *
  -- the number in units
  have hx : (m : Rat) * pw e * ((2 ^ (last - e).toNat : Nat) : Rat) = ((m <<< (e - last).toNat : Nat) : Rat) * pw last := by
    rw [Nat.shiftLeft_eq, Rat.natCast_mul, ← pw_nat, ← pw_nat, Rat.mul_assoc, ← pw_add, Rat.mul_assoc, ← pw_add]
    congr 2
    omega
  have hu := pw_pos last
  have g0 : (0 : Rat) < ((2 ^ (last - e).toNat : Nat) : Rat) := Rat.natCast_pos.2 (Nat.two_pow_pos _)
  generalize m <<< (e - last).toNat = n at *
  generalize hgg : 2 ^ (last - e).toNat = g at *
  have b0 := B0 f
  -- bounds by the logarithm
  have hm1 : 2 ^ m.log2 ≤ m := Nat.log2_self_le hm
  have hm2 : m < 2 ^ (m.log2 + 1) := Nat.lt_log2_self
  have hlo : last = e + m.log2 - f.fractionBits → (f.binade : Rat) * pw last ≤ (m : Rat) * pw e := by
    intro h
    have e1 : (f.binade : Rat) * pw last = ((2 ^ m.log2 : Nat) : Rat) * pw e := by
      unfold Format.binade
      rw [← pw_nat, ← pw_nat, ← pw_add, ← pw_add]
      congr 1
      omega
    rw [e1]
    exact Rat.mul_le_mul_of_nonneg_right (Rat.natCast_le_natCast.2 hm1) (Rat.le_of_lt (pw_pos _))
  have hhi : (m : Rat) * pw e < (2 * f.binade : Rat) * pw last := by
    have e1 : (m : Rat) * pw e < ((2 ^ (m.log2 + 1) : Nat) : Rat) * pw e := Rat.mul_lt_mul_of_pos_right (Rat.natCast_lt_natCast.2 hm2) (pw_pos _)
    have e2 : ((2 ^ (m.log2 + 1) : Nat) : Rat) * pw e ≤ (2 * f.binade : Rat) * pw last := by
      have e3 : (2 * f.binade : Rat) = pw ((f.fractionBits + 1 : Nat) : Int) := by
        rw [pw_nat]
        unfold Format.binade
        rw [Nat.pow_succ, Rat.natCast_mul]
        grind
      rw [e3, ← pw_nat, ← pw_add, ← pw_add]
      exact pw_le (by omega)
    grind
  have hn0 : (0 : Rat) ≤ (n : Rat) := Rat.natCast_nonneg
  -- the cut in units
  obtain ⟨s1, s2, s3⟩ := hs
  have s1' : (2 * n : Rat) ≤ (2 * c + 1) * g := by
    have := Rat.natCast_le_natCast.2 s1
    simpa [Rat.natCast_mul, Rat.natCast_add] using this
  have s2' : (2 * c * g : Rat) ≤ 2 * n + g := by
    have := Rat.natCast_le_natCast.2 s2
    simpa [Rat.natCast_mul, Rat.natCast_add] using this
  have cancel : ∀ {a b : Rat}, a * g ≤ b * g → a ≤ b := fun h => Rat.le_of_mul_le_mul_right h g0
  have q1 : 2 * ((m : Rat) * pw e) ≤ (2 * c + 1) * pw last := by
    refine cancel ?_
    have := Rat.mul_le_mul_of_nonneg_right s1' (Rat.le_of_lt hu)
    grind
  have q2 : (2 * c : Rat) * pw last ≤ 2 * ((m : Rat) * pw e) + pw last := by
    refine cancel ?_
    have := Rat.mul_le_mul_of_nonneg_right s2' (Rat.le_of_lt hu)
    grind
  have uu : ∀ {a b : Rat}, a * pw last ≤ b * pw last → a ≤ b := fun h => Rat.le_of_mul_le_mul_right h hu
  have hcB : c ≤ 2 * f.binade := by
    have : (2 * c : Rat) * pw last < (4 * f.binade + 1) * pw last := by grind
    have h3 : (2 * c : Rat) < 4 * f.binade + 1 := Rat.lt_of_mul_lt_mul_right this (Rat.le_of_lt hu)
    have h4 : ((2 * c : Nat) : Rat) < ((4 * f.binade + 1 : Nat) : Rat) := by
      simpa [Rat.natCast_mul, Rat.natCast_add] using h3
    have := Rat.natCast_lt_natCast.1 h4
    omega
  have hpB : p = 0 ∨ f.binade ≤ c := by
    by_cases h0 : p = 0
    · exact .inl h0
    · right
      have h1 := hlo (by omega)
      have : (2 * f.binade : Rat) * pw last ≤ (2 * c + 1) * pw last := by grind
      have h3 := uu this
      have h4 : ((2 * f.binade : Nat) : Rat) ≤ ((2 * c + 1 : Nat) : Rat) := by
        simpa [Rat.natCast_mul, Rat.natCast_add] using h3
      have := Rat.natCast_le_natCast.1 h4
      omega
  refine ⟨p, c, rfl, hpB, hcB, ?_⟩
  rw [← hp]
  refine ⟨?_, hhi, q1, q2, ?_⟩
  · by_cases h0 : p = 0
    · exact .inl h0
    · exact .inr (hlo (by omega))
  · intro h
    apply s3
    have inj : ∀ {a b : Nat}, (a : Rat) = (b : Rat) → a = b := fun h => Nat.le_antisymm (Rat.natCast_le_natCast.1 (by grind)) (Rat.natCast_le_natCast.1 (by grind))
    have canc : ∀ {a b : Rat}, a * pw last = b * pw last → a = b := fun {a b} h => by
      have e1 := uu (a := a) (b := b) (by grind)
      have e2 := uu (a := b) (b := a) (by grind)
      grind
    rcases h with h | h
    · left
      apply inj
      rw [Rat.natCast_mul, Rat.natCast_mul, Rat.natCast_add, Rat.natCast_mul]
      apply canc
      have := congrArg (· * (g : Rat)) h
      grind
    · right
      apply inj
      rw [Rat.natCast_mul, Rat.natCast_mul, Rat.natCast_add, Rat.natCast_mul]
      apply canc
      have := congrArg (· * (g : Rat)) h
      grind

end Fl
end Go.Ev

/- Floats as rational numbers: the nearest rung. -/
set_option linter.unusedVariables false
namespace Go.Ev
open Ieee

namespace Fl
variable (f : Format)

theorem cast_pred {c : Nat} (h : c ≠ 0) : ((c - 1 : Nat) : Rat) = (c : Rat) - 1 := by
  have : ((c - 1 + 1 : Nat) : Rat) = ((c - 1 : Nat) : Rat) + 1 := by rw [Rat.natCast_add]; rfl
  rw [show c - 1 + 1 = c by omega] at this
  grind

/-- A rung is nearest to a number; between two, the even one. -/
structure Near (a : Rat) (r : Nat) : Prop where
  inf : r ≤ f.infRung
  lo : ∀ t, t ≤ f.infRung → mg f t ≤ a → t ≤ r
  hi : ∀ t, a ≤ mg f t → r ≤ t
  lt : ∀ t, t < f.infRung → 2 * a < mg f t + mg f (t + 1) → r ≤ t
  gt : ∀ t, t < f.infRung → mg f t + mg f (t + 1) < 2 * a → t + 1 ≤ r
  tie : ∀ t, t < f.infRung → 2 * a = mg f t + mg f (t + 1) → r = t + t % 2

variable {f}
theorem Near.mono {a b : Rat} {r s : Nat} (h1 : Near f a r) (h2 : Near f b s) (h : a ≤ b) : r ≤ s := by
  refine Nat.le_of_not_lt fun hlt => ?_
  have i1 := h1.inf
  have x1 : b < mg f (s + 1) := Rat.not_le.1 fun hc => by have := h2.lo _ (by omega) hc; omega
  have x2 : mg f (r - 1) < a := Rat.not_le.1 fun hc => by have := h1.hi _ hc; omega
  have x3 : mg f (r - 1) < mg f (s + 1) := by grind
  have x4 := lt_of_mg f x3
  have e : r = s + 1 := by omega
  subst e
  have y1 : ¬ 2 * a < mg f s + mg f (s + 1) := fun hc => by have := h1.lt s (by omega) hc; omega
  have y2 : ¬ mg f s + mg f (s + 1) < 2 * b := fun hc => by have := h2.gt s (by omega) hc; omega
  have z1 := h1.tie s (by omega) (by grind)
  have z2 := h2.tie s (by omega) (by grind)
  omega
theorem Near.exact {a : Rat} {r t : Nat} (h : Near f a r) (e : a = mg f t) (ht : t ≤ f.infRung) : r = t :=
  Nat.le_antisymm (h.hi t (by grind)) (h.lo t ht (by grind))

theorem rg_le_inf (m : Nat) (e : Int) : rg f m e ≤ f.infRung := by
  unfold rg
  split
  · omega
  · exact Nat.min_le_right _ _

theorem rg_near (hB : f.binade % 2 = 0) (m : Nat) (e : Int) : Near f ((m : Rat) * pw e) (rg f m e) := by
  by_cases hm : m = 0
  · subst hm
    have h0 : ((0 : Nat) : Rat) * pw e = 0 := Rat.zero_mul _
    have hr : rg f 0 e = 0 := by unfold rg; rw [if_pos rfl]
    rw [h0, hr]
    have pos : ∀ t, 0 < mg f (t + 1) := fun t => by rw [← mg_zero f]; exact mg_lt f (by omega)
    refine ⟨by omega, fun t _ h => ?_, fun t _ => by omega, fun t _ _ => by omega, fun t _ h => ?_, fun t _ h => ?_⟩
    · rw [← mg_zero f] at h; have := le_of_mg f h; omega
    · have := pos t; have := mg_nonneg f t; grind
    · have := pos t; have := mg_nonneg f t; grind
  obtain ⟨p, c, e1, h1, h2, h3, h4, h5, h6, h7⟩ := rg_scale f (e := e) hm
  have hinf := rg_le_inf (f := f) m e
  generalize rg f m e = r at *
  generalize (m : Rat) * pw e = a at *
  have hu := pw_pos (f.leastPlace + p)
  have b0 := B0 f
  have m1 : mg f (p * f.binade + c) = (c : Rat) * pw (f.leastPlace + p) := mg_at f p c h2 h1
  have eB : p * f.binade % 2 = 0 := by rw [Nat.mul_mod, hB]; simp
  -- below the rung
  have dn : ∀ t, t + 1 ≤ p * f.binade + c → mg f t + mg f (t + 1) ≤ 2 * a ∧ (mg f t + mg f (t + 1) = 2 * a → p * f.binade + c = t + 1 ∧ c % 2 = 0) := by
    intro t ht
    have m2 : mg f (t + 1) ≤ mg f (p * f.binade + c) := mg_le f ht
    have m5 : mg f t < mg f (t + 1) := mg_lt f (by omega)
    by_cases hc0 : c = 0
    · have : p = 0 := by omega
      subst this; subst hc0; omega
    · have hcm := cast_pred hc0
      by_cases hc : p = 0 ∨ f.binade ≤ c - 1
      · have m3 : mg f (p * f.binade + (c - 1)) = ((c : Rat) - 1) * pw (f.leastPlace + p) := by rw [mg_at f p (c - 1) (by omega) hc, hcm]
        have m4 : mg f t ≤ mg f (p * f.binade + (c - 1)) := mg_le f (by omega)
        refine ⟨by grind, fun he => ?_⟩
        have := mg_inj f (show mg f (t + 1) = mg f (p * f.binade + c) by grind)
        refine ⟨by omega, h7 (by right; grind)⟩
      · have hcB : c = f.binade := by omega
        rcases h3 with h3 | h3
        · omega
        · rw [← hcB] at h3
          exact ⟨by grind, fun he => by grind⟩
  -- above it
  have up : ∀ t, p * f.binade + c ≤ t → 2 * a ≤ mg f t + mg f (t + 1) ∧ (2 * a = mg f t + mg f (t + 1) → p * f.binade + c = t ∧ c % 2 = 0) := by
    intro t ht
    have m2 : mg f (p * f.binade + c) ≤ mg f t := mg_le f ht
    have m5 : mg f t < mg f (t + 1) := mg_lt f (by omega)
    by_cases hc : c + 1 ≤ 2 * f.binade
    · have m3 : mg f (p * f.binade + (c + 1)) = ((c : Rat) + 1) * pw (f.leastPlace + p) := by
        rw [mg_at f p (c + 1) hc (by omega), Rat.natCast_add]; rfl
      have m4 : mg f (p * f.binade + (c + 1)) ≤ mg f (t + 1) := mg_le f (by omega)
      refine ⟨by grind, fun he => ?_⟩
      have := mg_inj f (show mg f (p * f.binade + c) = mg f t by grind)
      refine ⟨by omega, h7 (by left; grind)⟩
    · have hcB : c = 2 * f.binade := by omega
      rw [hcB, Rat.natCast_mul] at m1
      have : ((2 : Nat) : Rat) = 2 := rfl
      exact ⟨by grind, fun he => by grind⟩
  have lo : ∀ t, t ≤ f.infRung → mg f t ≤ a → t ≤ r := by
    intro t ht h
    rw [e1]
    refine Nat.le_min.2 ⟨Nat.le_of_not_lt fun hlt => ?_, ht⟩
    have := (up (t - 1) (by omega)).1
    rw [show t - 1 + 1 = t by omega] at this
    have : mg f (t - 1) < mg f t := mg_lt f (by omega)
    grind
  have hi : ∀ t, a ≤ mg f t → r ≤ t := by
    intro t h
    rw [e1]
    refine Nat.le_trans (Nat.min_le_left _ _) (Nat.le_of_not_lt fun hlt => ?_)
    have := (dn t (by omega)).1
    have : mg f t < mg f (t + 1) := mg_lt f (by omega)
    grind
  refine ⟨hinf, lo, hi, fun t ht h => ?_, fun t ht h => ?_, fun t ht h => ?_⟩
  · refine Nat.le_of_not_lt fun hlt => ?_
    have := (dn t (by omega)).1
    grind
  · refine Nat.le_of_not_lt fun hlt => ?_
    have := (up t (by omega)).1
    grind
  · have m5 : mg f t < mg f (t + 1) := mg_lt f (by omega)
    have r1 := lo t (by omega) (by grind)
    have r2 := hi (t + 1) (by grind)
    by_cases e2 : r = t + 1
    · have := (dn t (by omega)).2 (by grind)
      omega
    · have := (up t (by omega)).2 (by grind)
      omega

end Fl
end Go.Ev

/- Floats as rational numbers: what words stand for, their order, and their operations. -/
set_option linter.unusedVariables false
set_option linter.unusedSimpArgs false
namespace Go.Ev
open Ieee

namespace Fl

theorem even_k (k : FloatKind) : k.format.binade % 2 = 0 := by cases k <;> decide
theorem sign_pos (k : FloatKind) : 0 < signOf k := by cases k <;> decide

/-- Has a word a minus? -/
def sg (k : FloatKind) (b : Nat) : Bool := b / signOf k % 2 == 1
def rung (k : FloatKind) (b : Nat) : Nat := b % signOf k
/-- A number with a sign. -/
def sgd (s : Bool) (q : Rat) : Rat := bif s then -q else q
theorem sgd_sgd (s : Bool) (q : Rat) : sgd s (sgd s q) = q := by cases s <;> simp [sgd, Rat.neg_neg]
/-- What a word stands for; an infinity stands for the next power of two. -/
def ev (k : FloatKind) (b : Nat) : Rat := sgd (sg k b) (mg k.format (rung k b))
def fin (k : FloatKind) (b : Nat) : Bool := Nat.blt (rung k b) (infOf k)
theorem fin_iff {k : FloatKind} {b : Nat} : fin k b = true ↔ rung k b < infOf k := by simp [fin, Nat.blt_eq]
theorem nan_false {k : FloatKind} {b : Nat} : nan k b = false ↔ rung k b ≤ infOf k := by
  have := nan_iff k b
  unfold rung
  cases h : nan k b
  · simp [h] at this ⊢; exact this
  · simp [h] at this ⊢; omega
theorem fin_nan {k : FloatKind} {b : Nat} (h : fin k b = true) : nan k b = false := by
  rw [nan_false]; rw [fin_iff] at h; omega

theorem read_fin {k : FloatKind} {b : Nat} (h : fin k b = true) : ∃ m e, k.format.read b = .number (sg k b) m e ∧ (m : Rat) * pw e = mg k.format (rung k b) := by
  rw [fin_iff] at h
  unfold Format.read
  simp only [sign_eq, inf_eq]
  unfold rung sg mg mgN at *
  by_cases h1 : b % signOf k < k.format.binade
  · rw [if_pos h1, if_pos h1]
    exact ⟨_, _, rfl, rfl⟩
  · rw [if_neg h1, if_neg h1, if_pos h]
    refine ⟨_, _, rfl, ?_⟩
    rw [pw_add, pw_nat, Rat.natCast_mul]
    grind
theorem read_inf {k : FloatKind} {b : Nat} (h : rung k b = infOf k) : k.format.read b = .infinity (sg k b) := by
  have := binade_le k
  unfold Format.read
  simp only [sign_eq, inf_eq]
  unfold rung sg at *
  rw [if_neg (by omega), if_neg (by omega), if_pos h]

theorem word_sg {k : FloatKind} {s : Bool} {r : Nat} (h : r ≤ infOf k) : sg k (k.format.word s r) = s ∧ rung k (k.format.word s r) = r ∧ k.format.word s r < 2 * signOf k := by
  have := inf_lt_sign k
  have s0 := sign_pos k
  unfold Format.word sg rung
  rw [sign_eq]
  cases s
  · simp only [Bool.false_eq_true, if_false]
    rw [Nat.div_eq_of_lt (by omega)]
    exact ⟨rfl, Nat.mod_eq_of_lt (by omega), by omega⟩
  · simp only [if_true]
    rw [Nat.add_div_left _ s0, Nat.div_eq_of_lt (by omega), Nat.add_mod_left]
    exact ⟨rfl, Nat.mod_eq_of_lt (by omega), by omega⟩
theorem word_of {k : FloatKind} {b : Nat} (h : b < 2 * signOf k) : k.format.word (sg k b) (rung k b) = b := by
  have s0 := sign_pos k
  unfold Format.word sg rung
  rw [sign_eq]
  have h1 := Nat.div_add_mod b (signOf k)
  have h2 : b / signOf k < 2 := (Nat.div_lt_iff_lt_mul s0).2 h
  by_cases h3 : b / signOf k = 0
  · simp only [h3, Nat.mul_zero, Nat.zero_add] at h1
    simp [h3, h1]
  · have h4 : b / signOf k = 1 := Nat.le_antisymm (Nat.le_of_lt_succ h2) (Nat.pos_of_ne_zero h3)
    simp only [h4, Nat.mul_one] at h1
    simp [h4, h1]
theorem ev_word {k : FloatKind} {s : Bool} {r : Nat} (h : r ≤ infOf k) : ev k (k.format.word s r) = sgd s (mg k.format r) := by
  unfold ev
  rw [(word_sg h).1, (word_sg h).2.1]

theorem near_self {f : Format} (hB : f.binade % 2 = 0) {r : Nat} (h : r ≤ f.infRung) : Near f (mg f r) r := by
  have h1 := rg_near hB (mgN f r) f.leastPlace
  have h2 := h1.exact (t := r) rfl h
  rw [h2] at h1
  exact h1

/-- A word is what a number is rounded to. -/
def Rnd (k : FloatKind) (q : Rat) (b : Nat) : Prop := ∃ s r, b = k.format.word s r ∧ 0 ≤ sgd s q ∧ Near k.format (sgd s q) r

theorem Rnd.of {k : FloatKind} {s : Bool} {m : Nat} {e : Int} {q : Rat} (h : sgd s ((m : Rat) * pw e) = q) : Rnd k q (k.format.nearest s m e) := by
  refine ⟨s, rg k.format m e, nearest_eq _ _ _ _, ?_, ?_⟩
  · rw [← h, sgd_sgd]
    exact Rat.mul_nonneg Rat.natCast_nonneg (Rat.le_of_lt (pw_pos _))
  · rw [← h, sgd_sgd]
    exact rg_near (even_k k) m e
theorem Rnd.nan {k : FloatKind} {q : Rat} {b : Nat} (h : Rnd k q b) : nan k b = false := by
  obtain ⟨s, r, rfl, _, h1⟩ := h
  exact nan_word s (inf_eq k ▸ h1.inf)
theorem Rnd.lt2 {k : FloatKind} {q : Rat} {b : Nat} (h : Rnd k q b) : b < 2 * signOf k := by
  obtain ⟨s, r, rfl, _, h1⟩ := h
  exact (word_sg (inf_eq k ▸ h1.inf)).2.2
theorem rnd_self {k : FloatKind} {b : Nat} (h : nan k b = false) (h2 : b < 2 * signOf k) : Rnd k (ev k b) b := by
  rw [nan_false] at h
  refine ⟨sg k b, rung k b, (word_of h2).symm, ?_, ?_⟩
  · unfold ev; rw [sgd_sgd]; exact mg_nonneg _ _
  · unfold ev; rw [sgd_sgd]; exact near_self (even_k k) (by rw [inf_eq]; exact h)
theorem Rnd.mono {k : FloatKind} {q q' : Rat} {b b' : Nat} (h : Rnd k q b) (h' : Rnd k q' b') (hq : q ≤ q') : ev k b ≤ ev k b' := by
  obtain ⟨s, r, rfl, p1, n1⟩ := h
  obtain ⟨s', r', rfl, p2, n2⟩ := h'
  have i1 := n1.inf
  have i2 := n2.inf
  rw [inf_eq] at i1 i2
  rw [ev_word i1, ev_word i2]
  have a1 := mg_nonneg k.format r
  have a2 := mg_nonneg k.format r'
  cases s <;> cases s' <;> simp only [sgd, cond_true, cond_false] at *
  · exact mg_le _ (n1.mono n2 hq)
  · have e1 : q = 0 := by grind
    have e2 : q' = 0 := by grind
    subst e1
    have z1 : r = 0 := by have := n1.hi 0 (by rw [mg_zero]; grind); omega
    have z2 : r' = 0 := by have := n2.hi 0 (by rw [mg_zero]; grind); omega
    subst z1; subst z2
    rw [mg_zero]; grind
  · grind
  · have := mg_le k.format (n2.mono n1 (by grind))
    grind
theorem Rnd.exact {k : FloatKind} {q : Rat} {b w : Nat} (h : Rnd k q b) (hw : Go.Ev.nan k w = false) (hw2 : w < 2 * signOf k) (e : q = ev k w) : ev k b = ev k w := by
  have h2 := rnd_self hw hw2
  have a := h.mono h2 (by grind)
  have b := h2.mono h (by grind)
  grind
theorem Rnd.le {k : FloatKind} {q : Rat} {b w : Nat} (h : Rnd k q b) (hw : Go.Ev.nan k w = false) (hw2 : w < 2 * signOf k) (e : q ≤ ev k w) : ev k b ≤ ev k w := h.mono (rnd_self hw hw2) e
theorem Rnd.ge {k : FloatKind} {q : Rat} {b w : Nat} (h : Rnd k q b) (hw : Go.Ev.nan k w = false) (hw2 : w < 2 * signOf k) (e : ev k w ≤ q) : ev k w ≤ ev k b := (rnd_self hw hw2).mono h e

theorem ev_inj {k : FloatKind} {x y : Nat} (hx : x < 2 * signOf k) (hy : y < 2 * signOf k) (h : ev k x = ev k y) (h0 : ev k x ≠ 0) : x = y := by
  have e1 := word_of hx
  have e2 := word_of hy
  have a1 := mg_nonneg k.format (rung k x)
  have a2 := mg_nonneg k.format (rung k y)
  unfold ev at h h0
  have hs : sg k x = sg k y := by
    cases s1 : sg k x <;> cases s2 : sg k y <;> simp only [s1, s2, sgd, cond_true, cond_false] at h h0 <;> first | rfl | (exfalso; grind)
  have hr : rung k x = rung k y := by
    apply mg_inj k.format
    rw [hs] at h
    have := congrArg (sgd (sg k y)) h
    rwa [sgd_sgd, sgd_sgd] at this
  rw [← e1, ← e2, hs, hr]
theorem ev_zero {k : FloatKind} {x : Nat} (hx : x < 2 * signOf k) : ev k x = 0 ↔ x = 0 ∨ x = signOf k := by
  have e1 := word_of hx
  unfold ev
  constructor
  · intro h
    have h0 : mg k.format (rung k x) = mg k.format 0 := by
      rw [mg_zero]
      cases e : sg k x <;> rw [e] at h
      · exact h
      · have h : -mg k.format (rung k x) = 0 := h
        grind
    have := mg_inj k.format h0
    rw [this] at e1
    unfold Format.word at e1
    rw [sign_eq] at e1
    cases s : sg k x <;> simp only [s, Bool.false_eq_true, if_false, if_true] at e1
    · exact .inl e1.symm
    · exact .inr e1.symm
  · intro h
    have : rung k x = 0 := by
      unfold rung
      rcases h with rfl | rfl
      · exact Nat.zero_mod _
      · exact Nat.mod_self _
    rw [this, mg_zero]
    cases sg k x <;> simp [sgd]

/-! ### order -/
def cmpQ (x y : Rat) : Ordering := if x < y then .lt else if x = y then .eq else .gt
theorem cmpQ_lt {x y : Rat} (h : x < y) : cmpQ x y = .lt := by unfold cmpQ; rw [if_pos h]
theorem cmpQ_eq {x y : Rat} (h : x = y) : cmpQ x y = .eq := by
  subst h; unfold cmpQ; rw [if_neg Rat.lt_irrefl, if_pos rfl]
theorem cmpQ_gt {x y : Rat} (h : y < x) : cmpQ x y = .gt := by
  unfold cmpQ; rw [if_neg (by grind), if_neg (by grind)]
theorem compare_rat {a b : Int} {x y u : Rat} (hu : 0 < u) (ha : (a : Rat) * u = x) (hb : (b : Rat) * u = y) : compare a b = cmpQ x y := by
  subst ha; subst hb
  rcases Int.lt_trichotomy a b with h | h | h
  · rw [cmpQ_lt (Rat.mul_lt_mul_of_pos_right (Rat.intCast_lt_intCast.2 h) hu)]
    exact Int.compare_eq_lt.2 h
  · subst h
    rw [cmpQ_eq rfl]
    exact Int.compare_eq_eq.2 rfl
  · rw [cmpQ_gt (Rat.mul_lt_mul_of_pos_right (Rat.intCast_lt_intCast.2 h) hu)]
    exact Int.compare_eq_gt.2 h
theorem signed_rat (s : Bool) (m : Nat) (i b : Int) (h : b ≤ i) : ((signed s m (i - b).toNat : Int) : Rat) * pw b = sgd s ((m : Rat) * pw i) := by
  have e : ((m <<< (i - b).toNat : Nat) : Rat) * pw b = (m : Rat) * pw i := by
    rw [Nat.shiftLeft_eq, Rat.natCast_mul, ← pw_nat, Rat.mul_assoc, ← pw_add]
    congr 2
    omega
  unfold signed
  cases s
  · show (((m <<< (i - b).toNat : Nat) : Int) : Rat) * pw b = (m : Rat) * pw i
    rw [← e]; rfl
  · show ((-((m <<< (i - b).toNat : Nat) : Int) : Int) : Rat) * pw b = -((m : Rat) * pw i)
    rw [← e, Rat.intCast_neg, Rat.neg_mul]; rfl

theorem order_ev {k : FloatKind} {x y : Nat} (hx : nan k x = false) (hy : nan k y = false) :
    k.format.order x y = some (cmpQ (ev k x) (ev k y)) := by
  rw [nan_false] at hx hy
  unfold Format.order
  have ltinf : ∀ r, r < infOf k → mg k.format r < mg k.format (infOf k) := fun r h => mg_lt _ h
  have nn := mg_nonneg k.format
  have i0 : 0 < mg k.format (infOf k) := by
    have : mg k.format 0 < mg k.format (infOf k) := mg_lt _ (by cases k <;> decide)
    rwa [mg_zero] at this
  have ev_t : ∀ {b}, sg k b = true → ev k b = -mg k.format (rung k b) := fun h => by unfold ev; rw [h]; rfl
  have ev_f : ∀ {b}, sg k b = false → ev k b = mg k.format (rung k b) := fun h => by unfold ev; rw [h]; rfl
  by_cases fx : rung k x = infOf k <;> by_cases fy : rung k y = infOf k
  · rw [read_inf fx, read_inf fy]
    cases s1 : sg k x <;> cases s2 : sg k y <;> simp only [Datum.order]
    · rw [ev_f s1, ev_f s2, fx, fy, cmpQ_eq rfl]; rfl
    · rw [ev_f s1, ev_t s2, fx, fy, cmpQ_gt (by grind)]; rfl
    · rw [ev_t s1, ev_f s2, fx, fy, cmpQ_lt (by grind)]; rfl
    · rw [ev_t s1, ev_t s2, fx, fy, cmpQ_eq rfl]; rfl
  · obtain ⟨m, e, h1, h2⟩ := read_fin (k := k) (b := y) (fin_iff.2 (by omega))
    rw [read_inf fx, h1]
    have := ltinf (rung k y) (by omega)
    have := nn (rung k y)
    cases s1 : sg k x <;> cases s2 : sg k y <;> simp only [Datum.order]
    · rw [ev_f s1, ev_f s2, fx, cmpQ_gt (by grind)]; rfl
    · rw [ev_f s1, ev_t s2, fx, cmpQ_gt (by grind)]; rfl
    · rw [ev_t s1, ev_f s2, fx, cmpQ_lt (by grind)]; rfl
    · rw [ev_t s1, ev_t s2, fx, cmpQ_lt (by grind)]; rfl
  · obtain ⟨m, e, h1, h2⟩ := read_fin (k := k) (b := x) (fin_iff.2 (by omega))
    rw [read_inf fy, h1]
    have := ltinf (rung k x) (by omega)
    have := nn (rung k x)
    cases s1 : sg k x <;> cases s2 : sg k y <;> simp only [Datum.order]
    · rw [ev_f s1, ev_f s2, fy, cmpQ_lt (by grind)]; rfl
    · rw [ev_f s1, ev_t s2, fy, cmpQ_gt (by grind)]; rfl
    · rw [ev_t s1, ev_f s2, fy, cmpQ_lt (by grind)]; rfl
    · rw [ev_t s1, ev_t s2, fy, cmpQ_gt (by grind)]; rfl
  · obtain ⟨m, e, h1, h2⟩ := read_fin (k := k) (b := x) (fin_iff.2 (by omega))
    obtain ⟨m', e', h1', h2'⟩ := read_fin (k := k) (b := y) (fin_iff.2 (by omega))
    rw [h1, h1']
    simp only [Datum.order]
    unfold ev
    rw [← h2, ← h2']
    exact congrArg some (compare_rat (pw_pos _) (signed_rat _ _ _ _ (Int.min_le_left _ _)) (signed_rat _ _ _ _ (Int.min_le_right _ _)))

section
variable {k : FloatKind} {x y : Nat}
theorem flt_ev (hx : nan k x = false) (hy : nan k y = false) : flt k x y = decide (ev k x < ev k y) := by
  unfold flt; rw [order_ev hx hy]
  by_cases h : ev k x < ev k y
  · rw [cmpQ_lt h]
    first | rw [decide_eq_true (by grind)]; rfl | rw [decide_eq_false (by grind)]; rfl
  · by_cases h' : ev k x = ev k y
    · rw [cmpQ_eq h']
      first | rw [decide_eq_true (by grind)]; rfl | rw [decide_eq_false (by grind)]; rfl
    · rw [cmpQ_gt (by grind)]
      first | rw [decide_eq_true (by grind)]; rfl | rw [decide_eq_false (by grind)]; rfl
theorem feq_ev (hx : nan k x = false) (hy : nan k y = false) : feq k x y = decide (ev k x = ev k y) := by
  unfold feq; rw [order_ev hx hy]
  by_cases h : ev k x < ev k y
  · rw [cmpQ_lt h]
    first | rw [decide_eq_true (by grind)]; rfl | rw [decide_eq_false (by grind)]; rfl
  · by_cases h' : ev k x = ev k y
    · rw [cmpQ_eq h']
      first | rw [decide_eq_true (by grind)]; rfl | rw [decide_eq_false (by grind)]; rfl
    · rw [cmpQ_gt (by grind)]
      first | rw [decide_eq_true (by grind)]; rfl | rw [decide_eq_false (by grind)]; rfl
theorem fle_ev (hx : nan k x = false) (hy : nan k y = false) : fle k x y = decide (ev k x ≤ ev k y) := by
  unfold fle; rw [order_ev hx hy]
  by_cases h : ev k x < ev k y
  · rw [cmpQ_lt h]
    first | rw [decide_eq_true (by grind)]; rfl | rw [decide_eq_false (by grind)]; rfl
  · by_cases h' : ev k x = ev k y
    · rw [cmpQ_eq h']
      first | rw [decide_eq_true (by grind)]; rfl | rw [decide_eq_false (by grind)]; rfl
    · rw [cmpQ_gt (by grind)]
      first | rw [decide_eq_true (by grind)]; rfl | rw [decide_eq_false (by grind)]; rfl
theorem fgt_ev (hx : nan k x = false) (hy : nan k y = false) : fgt k x y = decide (ev k y < ev k x) := by
  unfold fgt; rw [order_ev hx hy]
  by_cases h : ev k x < ev k y
  · rw [cmpQ_lt h]
    first | rw [decide_eq_true (by grind)]; rfl | rw [decide_eq_false (by grind)]; rfl
  · by_cases h' : ev k x = ev k y
    · rw [cmpQ_eq h']
      first | rw [decide_eq_true (by grind)]; rfl | rw [decide_eq_false (by grind)]; rfl
    · rw [cmpQ_gt (by grind)]
      first | rw [decide_eq_true (by grind)]; rfl | rw [decide_eq_false (by grind)]; rfl
theorem fge_ev (hx : nan k x = false) (hy : nan k y = false) : fge k x y = decide (ev k y ≤ ev k x) := by
  unfold fge; rw [order_ev hx hy]
  by_cases h : ev k x < ev k y
  · rw [cmpQ_lt h]
    first | rw [decide_eq_true (by grind)]; rfl | rw [decide_eq_false (by grind)]; rfl
  · by_cases h' : ev k x = ev k y
    · rw [cmpQ_eq h']
      first | rw [decide_eq_true (by grind)]; rfl | rw [decide_eq_false (by grind)]; rfl
    · rw [cmpQ_gt (by grind)]
      first | rw [decide_eq_true (by grind)]; rfl | rw [decide_eq_false (by grind)]; rfl
theorem order_nan (h : nan k x = true ∨ nan k y = true) : k.format.order x y = none := by
  unfold Format.order
  rcases h with h | h
  · obtain ⟨s, t, e⟩ := read_nan h; rw [e]; exact order_nan_l _ _ _
  · obtain ⟨s, t, e⟩ := read_nan h; rw [e]; exact order_nan_r _ _ _
theorem feq_nan (h : nan k x = true ∨ nan k y = true) : feq k x y = false := by unfold feq; rw [order_nan h]; rfl
/-! ### sums and products -/
theorem sgd_mul (s t : Bool) (a b : Rat) : sgd (s ^^ t) (a * b) = sgd s a * sgd t b := by
  cases s <;> cases t <;> simp [sgd, Rat.neg_mul, Rat.mul_neg, Rat.neg_neg]
theorem fmul_rnd (hx : fin k x = true) (hy : fin k y = true) : Rnd k (ev k x * ev k y) (fmul k x y) := by
  obtain ⟨m, e, h1, h2⟩ := read_fin hx
  obtain ⟨m', e', h1', h2'⟩ := read_fin hy
  unfold fmul Format.mul
  rw [h1, h1']
  simp only [Datum.product, Option.map_some, orNan, Format.write]
  apply Rnd.of
  unfold ev
  rw [← h2, ← h2', ← sgd_mul, pw_add, Rat.natCast_mul]
  congr 1
  grind
theorem fadd_core {s t : Bool} {m n : Nat} {i j : Int} :
    ∃ d, (Datum.number s m i).sum (.number t n j) = some d ∧ Rnd k (sgd s ((m : Rat) * pw i) + sgd t ((n : Rat) * pw j)) (k.format.write d) ∧
      (sgd s ((m : Rat) * pw i) + sgd t ((n : Rat) * pw j) = 0 → k.format.write d = k.format.word (s && t) 0) := by
  refine ⟨_, rfl, ?_, ?_⟩
  · simp only [Format.write]
    apply Rnd.of
    have e1 := signed_rat s m i (min i j) (Int.min_le_left _ _)
    have e2 := signed_rat t n j (min i j) (Int.min_le_right _ _)
    rw [← e1, ← e2, ← Rat.add_mul, ← Rat.intCast_add]
    generalize signed s m (i - min i j).toNat + signed t n (j - min i j).toNat = total
    by_cases h0 : total = 0
    · subst h0
      simp only [if_true, Int.natAbs_zero]
      have : ((0 : Nat) : Rat) * pw (min i j) = 0 := Rat.zero_mul _
      rw [this, Rat.intCast_zero, Rat.zero_mul]
      cases s && t <;> simp [sgd]
    · rw [if_neg h0]
      by_cases h : total < 0
      · rw [decide_eq_true h]
        simp only [sgd, cond_true]
        rw [← Rat.neg_mul]
        congr 1
        have : total = -(total.natAbs : Int) := by omega
        rw [this, Rat.intCast_neg, Int.natAbs_neg, Int.natAbs_natCast]
        rfl
      · rw [decide_eq_false h]
        simp only [sgd, cond_false]
        congr 1
        have : total = (total.natAbs : Int) := by omega
        rw [this, Int.natAbs_natCast]
        rfl
  · intro h
    have e1 := signed_rat s m i (min i j) (Int.min_le_left _ _)
    have e2 := signed_rat t n j (min i j) (Int.min_le_right _ _)
    rw [← e1, ← e2, ← Rat.add_mul, ← Rat.intCast_add] at h
    simp only [Format.write]
    generalize signed s m (i - min i j).toNat + signed t n (j - min i j).toNat = total at *
    have : total = 0 := by
      rcases Rat.mul_eq_zero.1 h with h | h
      · exact_mod_cast h
      · have := pw_pos (min i j); grind
    subst this
    simp [Format.nearest]
theorem fadd_rnd (hx : fin k x = true) (hy : fin k y = true) : Rnd k (ev k x + ev k y) (fadd k x y) := by
  obtain ⟨m, e, h1, h2⟩ := read_fin hx
  obtain ⟨m', e', h1', h2'⟩ := read_fin hy
  obtain ⟨d, g1, g2, _⟩ := fadd_core (k := k) (s := sg k x) (t := sg k y) (m := m) (n := m') (i := e) (j := e')
  unfold fadd Format.add
  rw [h1, h1', g1]
  unfold ev
  rw [← h2, ← h2']
  exact g2
theorem sgd_not (s : Bool) (q : Rat) : sgd (!s) q = -sgd s q := by cases s <;> simp [sgd, Rat.neg_neg]
theorem fsub_rnd (hx : fin k x = true) (hy : fin k y = true) : Rnd k (ev k x - ev k y) (fsub k x y) := by
  obtain ⟨m, e, h1, h2⟩ := read_fin hx
  obtain ⟨m', e', h1', h2'⟩ := read_fin hy
  obtain ⟨d, g1, g2, _⟩ := fadd_core (k := k) (s := sg k x) (t := !sg k y) (m := m) (n := m') (i := e) (j := e')
  unfold fsub Format.sub
  rw [h1, h1']
  simp only [Datum.opposite]
  rw [g1]
  unfold ev
  rw [← h2, ← h2']
  rw [sgd_not, ← Rat.sub_eq_add_neg] at g2
  exact g2
end

/-! ### other kinds -/
end Fl
end Go.Ev

/- Floats as rational numbers: which numbers are words, quotients, other kinds. -/
set_option linter.unusedVariables false
set_option linter.unusedSimpArgs false
namespace Go.Ev
open Ieee

theorem pw_lt_of {a b : Int} (h : pw a < pw b) : a < b := by
  refine Int.lt_of_not_ge fun hc => ?_
  have := pw_le hc
  grind
namespace Fl

theorem Near.between {f : Format} {x a lo hi : Rat} {r : Nat} (h : Near f x r) (h1 : ∀ t, mg f t ≤ lo ∨ hi ≤ mg f t) (h2 : ∀ t, mg f t + mg f (t + 1) ≤ 2 * lo ∨ 2 * hi ≤ mg f t + mg f (t + 1))
    (x1 : lo < x) (x2 : x < hi) (a1 : lo < a) (a2 : a < hi) : Near f a r := by
  refine ⟨h.inf, fun t ht e => h.lo t ht ?_, fun t e => h.hi t ?_, fun t ht e => h.lt t ht ?_, fun t ht e => h.gt t ht ?_, fun t ht e => ?_⟩
  · rcases h1 t with g | g <;> grind
  · rcases h1 t with g | g <;> grind
  · rcases h2 t with g | g <;> grind
  · rcases h2 t with g | g <;> grind
  · rcases h2 t with g | g <;> grind

theorem cast_odd {w : Nat} : ((w / 2 : Nat) : Rat) * 2 ≤ (w : Rat) ∧ (w : Rat) ≤ ((w / 2 : Nat) : Rat) * 2 + 1 := by
  have h1 : w / 2 * 2 ≤ w := by omega
  have h2 : w ≤ w / 2 * 2 + 1 := by omega
  have h1 := Rat.natCast_le_natCast.2 h1
  have h2 := Rat.natCast_le_natCast.2 h2
  rw [Rat.natCast_mul] at h1
  rw [Rat.natCast_add, Rat.natCast_mul] at h2
  exact ⟨h1, h2⟩

theorem mid1 {w v h : Rat} (e : w = 2 * v) : 2 * ((w + 1) * h) ≤ v * (2 * h) + (v + 1) * (2 * h) := by subst e; grind
theorem mid2 {w v h : Rat} (e : w = 2 * v + 1) : v * (2 * h) + (v + 1) * (2 * h) ≤ 2 * (w * h) := by subst e; grind
/-- Around a number with an odd last digit there is no word and no middle of words. -/
theorem sticky_gap {f : Format} {S : Nat} {g : Int} (hS : 2 ^ (f.fractionBits + 2) ≤ S) (hodd : S % 2 = 1) :
    ∃ lo hi : Rat, 0 ≤ lo ∧ lo ≤ ((S : Rat) - 1) * pw g ∧ ((S : Rat) + 1) * pw g ≤ hi ∧ (∀ t, mg f t ≤ lo ∨ hi ≤ mg f t) ∧ (∀ t, mg f t + mg f (t + 1) ≤ 2 * lo ∨ 2 * hi ≤ mg f t + mg f (t + 1)) := by
  have hS0 : S ≠ 0 := by omega
  obtain ⟨p, c, e1, s1, s2, s3, s4, _⟩ := rg_scale f (e := g) hS0
  have hg := pw_pos g
  have b0 := B0 f
  have hSc : ((2 ^ (f.fractionBits + 2) : Nat) : Rat) ≤ (S : Rat) := Rat.natCast_le_natCast.2 hS
  -- the scale's half is an even number of units
  have hK : g + 1 < f.leastPlace + p := by
    have t1 : pw (g + 1 + (f.fractionBits + 1 : Nat)) ≤ (S : Rat) * pw g := by
      have : pw (g + 1 + (f.fractionBits + 1 : Nat)) = ((2 ^ (f.fractionBits + 2) : Nat) : Rat) * pw g := by
        rw [← pw_nat, ← pw_add]; congr 1; omega
      rw [this]
      exact Rat.mul_le_mul_of_nonneg_right hSc (Rat.le_of_lt hg)
    have t2 : (2 * f.binade : Rat) * pw (f.leastPlace + p) = pw (f.leastPlace + p + (f.fractionBits + 1 : Nat)) := by
      rw [pw_add _ ((f.fractionBits + 1 : Nat) : Int), pw_nat]
      unfold Format.binade
      rw [Nat.pow_succ, Rat.natCast_mul]
      grind
    rw [t2] at s4
    have := pw_lt_of (show pw (g + 1 + (f.fractionBits + 1 : Nat)) < pw (f.leastPlace + p + (f.fractionBits + 1 : Nat)) by grind)
    omega
  obtain ⟨K, hKe⟩ : ∃ K : Nat, f.leastPlace + p = g + 1 + (K + 1 : Nat) := ⟨(f.leastPlace + p - g - 2).toNat, by omega⟩
  have hh : pw (f.leastPlace + p) = 2 * (((2 ^ (K + 1) : Nat) : Rat) * pw g) := by
    rw [hKe, pw_add, pw_succ, pw_nat]; grind
  have hH : (2 ^ (K + 1)) % 2 = 0 := by rw [Nat.pow_succ]; simp
  have H0 := Nat.two_pow_pos (K + 1)
  generalize 2 ^ (K + 1) = H at *
  have d1 := Nat.div_add_mod S H
  have d2 := Nat.mod_lt S H0
  have d3 : S % H % 2 = 1 := by rw [Nat.mod_mod_of_dvd _ (Nat.dvd_of_mod_eq_zero hH)]; exact hodd
  generalize S / H = w at *
  generalize S % H = ρ at *
  have hh0 : 0 < (H : Rat) * pw g := Rat.mul_pos (Rat.natCast_pos.2 H0) hg
  -- the ends
  have l1 : (w : Rat) * ((H : Rat) * pw g) ≤ ((S : Rat) - 1) * pw g := by
    have : H * w + 1 ≤ S := by omega
    have := Rat.natCast_le_natCast.2 this
    rw [Rat.natCast_add, Rat.natCast_mul] at this
    have := Rat.mul_le_mul_of_nonneg_right this (Rat.le_of_lt hg)
    grind
  have l2 : ((S : Rat) + 1) * pw g ≤ ((w : Rat) + 1) * ((H : Rat) * pw g) := by
    have : S + 1 ≤ H * w + H := by omega
    have := Rat.natCast_le_natCast.2 this
    rw [Rat.natCast_add, Rat.natCast_add, Rat.natCast_mul] at this
    have := Rat.mul_le_mul_of_nonneg_right this (Rat.le_of_lt hg)
    grind
  generalize hhg : (H : Rat) * pw g = h at *
  rw [hh] at s3 s4
  -- where the scale's digits lie
  have j1 : p = 0 ∨ f.binade ≤ w / 2 := by
    rcases s3 with s3 | s3
    · exact .inl s3
    · right
      have : (2 * f.binade : Rat) * h < ((w : Rat) + 1) * h := by grind
      have := Rat.lt_of_mul_lt_mul_right this (Rat.le_of_lt hh0)
      have : ((2 * f.binade : Nat) : Rat) < ((w + 1 : Nat) : Rat) := by
        rw [Rat.natCast_add, Rat.natCast_mul]; exact this
      have := Rat.natCast_lt_natCast.1 this
      omega
  have j2 : w / 2 + 1 ≤ 2 * f.binade := by
    have : (w : Rat) * h < (4 * f.binade : Rat) * h := by grind
    have := Rat.lt_of_mul_lt_mul_right this (Rat.le_of_lt hh0)
    have : ((w : Nat) : Rat) < ((4 * f.binade : Nat) : Rat) := by
      rw [Rat.natCast_mul]; exact this
    have := Rat.natCast_lt_natCast.1 this
    omega
  obtain ⟨c1, c2⟩ := cast_odd (w := w)
  have m1 : mg f (p * f.binade + w / 2) = ((w / 2 : Nat) : Rat) * (2 * h) := by rw [mg_at f p (w / 2) (by omega) j1, hh]
  have m2 : mg f (p * f.binade + (w / 2 + 1)) = (((w / 2 : Nat) : Rat) + 1) * (2 * h) := by
    rw [mg_at f p (w / 2 + 1) j2 (by omega), hh, Rat.natCast_add]; rfl
  have k1 : ((w / 2 : Nat) : Rat) * (2 * h) ≤ (w : Rat) * h := by
    have := Rat.mul_le_mul_of_nonneg_right c1 (Rat.le_of_lt hh0)
    grind
  have k2 : ((w : Rat) + 1) * h ≤ (((w / 2 : Nat) : Rat) + 1) * (2 * h) := by
    have : (w : Rat) + 1 ≤ (((w / 2 : Nat) : Rat) + 1) * 2 := by grind
    have := Rat.mul_le_mul_of_nonneg_right this (Rat.le_of_lt hh0)
    grind
  refine ⟨(w : Rat) * h, ((w : Rat) + 1) * h, Rat.mul_nonneg Rat.natCast_nonneg (Rat.le_of_lt hh0), l1, l2, fun t => ?_, fun t => ?_⟩
  · by_cases ht : t ≤ p * f.binade + w / 2
    · left
      have := mg_le f ht
      grind
    · right
      have := mg_le f (show p * f.binade + (w / 2 + 1) ≤ t by omega)
      grind
  · by_cases ht : t + 1 ≤ p * f.binade + w / 2
    · left
      have a1 := mg_le f ht
      have a2 := mg_lt f (show t < t + 1 by omega)
      grind
    · by_cases ht2 : t = p * f.binade + w / 2
      · subst ht2
        rw [Nat.add_assoc, m1, m2]
        by_cases ho : w = 2 * (w / 2)
        · right
          have : (w : Rat) = 2 * ((w / 2 : Nat) : Rat) := by
            have := congrArg (fun n : Nat => (n : Rat)) ho
            rw [Rat.natCast_mul] at this
            exact this
          exact mid1 this
        · left
          have ho : w = 2 * (w / 2) + 1 := by omega
          have : (w : Rat) = 2 * ((w / 2 : Nat) : Rat) + 1 := by
            have := congrArg (fun n : Nat => (n : Rat)) ho
            rw [Rat.natCast_add, Rat.natCast_mul] at this
            exact this
          exact mid2 this
      · right
        have a1 := mg_le f (show p * f.binade + (w / 2 + 1) ≤ t by omega)
        have a2 := mg_lt f (show t < t + 1 by omega)
        grind

/-- A last digit that tells only that something is left over does not change what is nearest. -/
theorem near_sticky {f : Format} (hB : f.binade % 2 = 0) {S : Nat} {g : Int} {a : Rat} (hS : 2 ^ (f.fractionBits + 2) ≤ S) (hodd : S % 2 = 1)
    (h1 : ((S : Rat) - 1) * pw g < a) (h2 : a < ((S : Rat) + 1) * pw g) : Near f a (rg f S g) := by
  obtain ⟨lo, hi, _, l1, l2, t1, t2⟩ := sticky_gap (g := g) hS hodd
  have hg := pw_pos g
  exact (rg_near hB S g).between t1 t2 (by grind) (by grind) (by grind) (by grind)

/-! ### quotients -/
theorem fdiv_rnd {k : FloatKind} {x y : Nat} (hx : fin k x = true) (hy : fin k y = true) (h0 : ev k y ≠ 0) : Rnd k (ev k x / ev k y) (fdiv k x y) := by
  obtain ⟨m, i, h1, h2⟩ := read_fin hx
  obtain ⟨n, j, h1', h2'⟩ := read_fin hy
  have hn : n ≠ 0 := by
    intro e
    subst e
    have : ((0 : Nat) : Rat) * pw j = 0 := Rat.zero_mul _
    rw [this] at h2'
    apply h0
    unfold ev
    rw [← h2']
    cases sg k y <;> simp [sgd]
  unfold fdiv Format.div
  rw [h1, h1']
  simp only [Datum.quotient, if_neg hn, Option.map_some, orNan, Format.write, Nat.shiftLeft_eq]
  generalize hmore : k.format.fractionBits + 2 + n.log2 - m.log2 = more
  have hnp : (0 : Rat) < (n : Rat) := Rat.natCast_pos.2 (by omega)
  have hjp := pw_pos j
  have hd : (0 : Rat) < (n : Rat) * pw j := Rat.mul_pos hnp hjp
  have hev : ev k x / ev k y = sgd (sg k x ^^ sg k y) (((m : Rat) * pw i) / ((n : Rat) * pw j)) := by
    unfold ev
    rw [← h2, ← h2', Rat.div_def, Rat.div_def, sgd_mul]
    congr 1
    cases sg k y
    · rfl
    · simp only [sgd, cond_true]
      exact Rat.inv_eq_of_mul_eq_one (by rw [Rat.neg_mul, Rat.mul_neg, Rat.neg_neg]; exact Rat.mul_inv_cancel _ (by grind))
  -- the quotient in units
  have hq : ((m : Rat) * pw i) / ((n : Rat) * pw j) * (n : Rat) = (2 * ((m * 2 ^ more : Nat) : Rat)) * pw (i - j - more - 1) := by
    have e1 : ((m : Rat) * pw i) / ((n : Rat) * pw j) * ((n : Rat) * pw j) = (m : Rat) * pw i := Rat.div_mul_cancel (by grind)
    have e2 : ((m : Rat) * pw i) / ((n : Rat) * pw j) * (n : Rat) * pw j = ((2 * ((m * 2 ^ more : Nat) : Rat)) * pw (i - j - more - 1)) * pw j := by
      rw [Rat.mul_assoc, e1, Rat.natCast_mul, ← pw_nat]
      have : pw i = 2 * (pw (more : Nat) * (pw (i - j - more - 1) * pw j)) := by
        rw [← pw_add, ← pw_add, ← pw_succ]; congr 1; omega
      rw [this]; grind
    have l1 := Rat.le_of_mul_le_mul_right (show _ * pw j ≤ _ * pw j by rw [e2]; grind) hjp
    have l2 := Rat.le_of_mul_le_mul_right (show ((2 * ((m * 2 ^ more : Nat) : Rat)) * pw (i - j - more - 1)) * pw j ≤ ((m : Rat) * pw i) / ((n : Rat) * pw j) * (n : Rat) * pw j by rw [e2]; grind) hjp
    grind
  have hq0 : 0 ≤ ((m : Rat) * pw i) / ((n : Rat) * pw j) := by
    rw [Rat.div_def]
    exact Rat.mul_nonneg (Rat.mul_nonneg Rat.natCast_nonneg (Rat.le_of_lt (pw_pos _))) (Rat.le_of_lt (Rat.inv_pos.2 hd))
  rw [hev]
  generalize ((m : Rat) * pw i) / ((n : Rat) * pw j) = q at *
  have hu := pw_pos (i - j - more - 1)
  refine ⟨sg k x ^^ sg k y, _, nearest_eq _ _ _ _, by rw [sgd_sgd]; exact hq0, ?_⟩
  rw [sgd_sgd]
  have dm := Nat.div_add_mod (m * 2 ^ more) n
  have dl := Nat.mod_lt (m * 2 ^ more) (Nat.pos_of_ne_zero hn)
  have dmR : (n : Rat) * ((m * 2 ^ more / n : Nat) : Rat) + ((m * 2 ^ more % n : Nat) : Rat) = ((m * 2 ^ more : Nat) : Rat) := by
    rw [← Rat.natCast_mul, ← Rat.natCast_add, dm]
  by_cases hr : m * 2 ^ more % n = 0
  · rw [hr]
    simp only [bne_self_eq_false, Bool.toNat_false, Nat.add_zero]
    have : q = ((2 * (m * 2 ^ more / n) : Nat) : Rat) * pw (i - j - more - 1) := by
      rw [hr] at dmR
      have e3 : q * (n : Rat) = (((2 * (m * 2 ^ more / n) : Nat) : Rat) * pw (i - j - more - 1)) * (n : Rat) := by
        rw [hq, ← dmR, Rat.natCast_mul]
        have : ((0 : Nat) : Rat) = 0 := rfl
        have : ((2 : Nat) : Rat) = 2 := rfl
        grind
      have l1 := Rat.le_of_mul_le_mul_right (show q * (n : Rat) ≤ _ * (n : Rat) by rw [e3]; grind) hnp
      have l2 := Rat.le_of_mul_le_mul_right (show (((2 * (m * 2 ^ more / n) : Nat) : Rat) * pw (i - j - more - 1)) * (n : Rat) ≤ q * (n : Rat) by rw [e3]; grind) hnp
      grind
    rw [this]
    exact rg_near (even_k k) _ _
  · have hb : (m * 2 ^ more % n != 0).toNat = 1 := by simp [hr]
    rw [hb]
    have hm : m ≠ 0 := by
      intro e; subst e; simp at hr
    have hrp : 0 < m * 2 ^ more % n := Nat.pos_of_ne_zero hr
    have hS : 2 ^ (k.format.fractionBits + 2) ≤ 2 * (m * 2 ^ more / n) + 1 := by
      have a1 : 2 ^ m.log2 ≤ m := Nat.log2_self_le hm
      have a2 : n < 2 ^ (n.log2 + 1) := Nat.lt_log2_self
      have a3 : 2 ^ (k.format.fractionBits + 2 + n.log2) ≤ m * 2 ^ more := by
        have : 2 ^ (k.format.fractionBits + 2 + n.log2) ≤ 2 ^ (m.log2 + more) := Nat.pow_le_pow_right (by omega) (by omega)
        rw [Nat.pow_add 2 m.log2] at this
        exact Nat.le_trans this (Nat.mul_le_mul_right _ a1)
      have a4 : 2 ^ (k.format.fractionBits + 1) ≤ m * 2 ^ more / n := by
        rw [Nat.le_div_iff_mul_le (Nat.pos_of_ne_zero hn)]
        refine Nat.le_trans (Nat.mul_le_mul_left _ (Nat.le_of_lt a2)) ?_
        rw [← Nat.pow_add]
        have : k.format.fractionBits + 1 + (n.log2 + 1) = k.format.fractionBits + 2 + n.log2 := by omega
        rw [this]
        exact a3
      have : 2 ^ (k.format.fractionBits + 2) = 2 * 2 ^ (k.format.fractionBits + 1) := by rw [Nat.pow_succ, Nat.mul_comm]
      omega
    refine near_sticky (even_k k) hS (by omega) ?_ ?_
    · have : ((2 * (m * 2 ^ more / n) + 1 : Nat) : Rat) - 1 = 2 * ((m * 2 ^ more / n : Nat) : Rat) := by
        rw [Rat.natCast_add, Rat.natCast_mul]
        have : ((1 : Nat) : Rat) = 1 := rfl
        have : ((2 : Nat) : Rat) = 2 := rfl
        grind
      rw [this]
      have rp : (0 : Rat) < ((m * 2 ^ more % n : Nat) : Rat) := Rat.natCast_pos.2 hrp
      have e3 : (2 * ((m * 2 ^ more / n : Nat) : Rat)) * pw (i - j - more - 1) * (n : Rat) < q * (n : Rat) := by
        rw [hq, ← dmR]
        have := Rat.mul_pos rp hu
        grind
      exact Rat.lt_of_mul_lt_mul_right e3 (Rat.le_of_lt hnp)
    · have : ((2 * (m * 2 ^ more / n) + 1 : Nat) : Rat) + 1 = 2 * ((m * 2 ^ more / n : Nat) : Rat) + 2 := by
        rw [Rat.natCast_add, Rat.natCast_mul]
        have : ((1 : Nat) : Rat) = 1 := rfl
        have : ((2 : Nat) : Rat) = 2 := rfl
        grind
      rw [this]
      have rp : ((m * 2 ^ more % n : Nat) : Rat) < (n : Rat) := Rat.natCast_lt_natCast.2 dl
      have e3 : q * (n : Rat) < (2 * ((m * 2 ^ more / n : Nat) : Rat) + 2) * pw (i - j - more - 1) * (n : Rat) := by
        rw [hq, ← dmR]
        have := Rat.mul_lt_mul_of_pos_right rp hu
        grind
      exact Rat.lt_of_mul_lt_mul_right e3 (Rat.le_of_lt hnp)

/-! ### which numbers are words -/
theorem rep_rung (f : Format) (p : Nat) : ∀ n, n ≤ 2 * f.binade → ∃ t, mg f t = (n : Rat) * pw (f.leastPlace + p) := by
  induction p with
  | zero =>
    intro n hn
    refine ⟨0 * f.binade + n, ?_⟩
    exact mg_at f 0 n hn (.inl rfl)
  | succ p ih =>
    intro n hn
    by_cases h : f.binade ≤ n
    · exact ⟨(p + 1) * f.binade + n, mg_at f (p + 1) n hn (.inr h)⟩
    · obtain ⟨t, ht⟩ := ih (2 * n) (by omega)
      refine ⟨t, ?_⟩
      rw [ht, show f.leastPlace + ((p + 1 : Nat) : Int) = f.leastPlace + p + 1 by omega, pw_succ, Rat.natCast_mul]
      have : ((2 : Nat) : Rat) = 2 := rfl
      grind
theorem mg_inf (k : FloatKind) : mg k.format (infOf k) = match k with | .f32 => pw 128 | .f64 => pw 1024 := by
  cases k
  · have := mg_at (FloatKind.f32.format) 253 (2 * FloatKind.f32.format.binade) (Nat.le_refl _) (.inr (by decide))
    rw [show 253 * FloatKind.f32.format.binade + 2 * FloatKind.f32.format.binade = infOf .f32 by decide, show 2 * FloatKind.f32.format.binade = 2 ^ 24 by decide, ← pw_nat, ← pw_add] at this
    rw [this]; rfl
  · have := mg_at (FloatKind.f64.format) 2045 (2 * FloatKind.f64.format.binade) (Nat.le_refl _) (.inr (by decide))
    rw [show 2045 * FloatKind.f64.format.binade + 2 * FloatKind.f64.format.binade = infOf .f64 by decide, show 2 * FloatKind.f64.format.binade = 2 ^ 53 by decide, ← pw_nat, ← pw_add] at this
    rw [this]; rfl

/-- A number is a finite word of a kind. -/
def Rep (k : FloatKind) (q : Rat) : Prop := ∃ w, fin k w = true ∧ w < 2 * signOf k ∧ ev k w = q
theorem Rep.neg {k : FloatKind} {q : Rat} (h : Rep k q) : Rep k (-q) := by
  obtain ⟨w, h1, h2, h3⟩ := h
  rw [fin_iff] at h1
  have := word_sg (k := k) (s := !sg k w) (r := rung k w) (by omega)
  refine ⟨k.format.word (!sg k w) (rung k w), fin_iff.2 (by rw [this.2.1]; exact h1), this.2.2, ?_⟩
  rw [ev_word (by omega), sgd_not, ← h3]
  rfl
theorem rep_nat {k : FloatKind} {n : Nat} {e : Int} (hn : n ≤ 2 * k.format.binade) (he : k.format.leastPlace ≤ e) (hi : (n : Rat) * pw e < mg k.format (infOf k)) : Rep k ((n : Rat) * pw e) := by
  obtain ⟨t, ht⟩ := rep_rung k.format (e - k.format.leastPlace).toNat n hn
  rw [show k.format.leastPlace + ((e - k.format.leastPlace).toNat : Int) = e by omega] at ht
  have hlt : t < infOf k := lt_of_mg k.format (by rw [ht]; exact hi)
  have := word_sg (k := k) (s := false) (r := t) (by omega)
  refine ⟨k.format.word false t, fin_iff.2 (by rw [this.2.1]; exact hlt), this.2.2, ?_⟩
  rw [ev_word (by omega), ← ht]
  rfl
theorem Rnd.rep {k : FloatKind} {q : Rat} {b : Nat} (h : Rnd k q b) (hr : Rep k q) : fin k b = true ∧ b < 2 * signOf k ∧ ev k b = q := by
  obtain ⟨w, h1, h2, h3⟩ := hr
  have e := h.exact (fin_nan h1) h2 h3.symm
  refine ⟨?_, h.lt2, by rw [e, h3]⟩
  have hb := nan_false.1 h.nan
  have hw := fin_iff.1 h1
  rw [fin_iff]
  refine Nat.lt_of_not_le fun hc => ?_
  have hbi : rung k b = infOf k := by omega
  have i1 := mg_lt k.format hw
  have n1 := mg_nonneg k.format (rung k w)
  unfold ev at e
  rw [hbi] at e
  cases s1 : sg k b <;> cases s2 : sg k w <;> rw [s1, s2] at e <;> simp only [sgd, cond_true, cond_false] at e <;> grind

end Fl
end Go.Ev

/- Floats as rational numbers: exact steps, kinds, signs. -/
set_option linter.unusedVariables false
set_option linter.unusedSimpArgs false
namespace Go.Ev
open Ieee

namespace Fl

/-- A finite word that stands for a number. -/
structure Ex (k : FloatKind) (x : Nat) (q : Rat) : Prop where
  f : fin k x = true
  l : x < 2 * signOf k
  e : ev k x = q
variable {k : FloatKind} {x y : Nat} {p q : Rat}
theorem Ex.nan (h : Ex k x q) : Go.Ev.nan k x = false := fin_nan h.f
theorem Rnd.ex (h : Rnd k q x) (hr : Rep k q) : Ex k x q := let ⟨a, b, c⟩ := h.rep hr; ⟨a, b, c⟩
theorem Ex.rep (h : Ex k x q) : Rep k q := ⟨x, h.f, h.l, h.e⟩
theorem Ex.radd (hx : Ex k x p) (hy : Ex k y q) : Rnd k (p + q) (fadd k x y) := by
  have := fadd_rnd hx.f hy.f; rwa [hx.e, hy.e] at this
theorem Ex.rsub (hx : Ex k x p) (hy : Ex k y q) : Rnd k (p - q) (fsub k x y) := by
  have := fsub_rnd hx.f hy.f; rwa [hx.e, hy.e] at this
theorem Ex.rmul (hx : Ex k x p) (hy : Ex k y q) : Rnd k (p * q) (fmul k x y) := by
  have := fmul_rnd hx.f hy.f; rwa [hx.e, hy.e] at this
theorem Ex.rdiv (hx : Ex k x p) (hy : Ex k y q) (h0 : q ≠ 0) : Rnd k (p / q) (fdiv k x y) := by
  have := fdiv_rnd hx.f hy.f (by rw [hy.e]; exact h0); rwa [hx.e, hy.e] at this
theorem Ex.add (hx : Ex k x p) (hy : Ex k y q) (h : Rep k (p + q)) : Ex k (fadd k x y) (p + q) := (hx.radd hy).ex h
theorem Ex.sub (hx : Ex k x p) (hy : Ex k y q) (h : Rep k (p - q)) : Ex k (fsub k x y) (p - q) := (hx.rsub hy).ex h
theorem Ex.mul (hx : Ex k x p) (hy : Ex k y q) (h : Rep k (p * q)) : Ex k (fmul k x y) (p * q) := (hx.rmul hy).ex h
theorem Ex.div (hx : Ex k x p) (hy : Ex k y q) (h0 : q ≠ 0) (h : Rep k (p / q)) : Ex k (fdiv k x y) (p / q) := (hx.rdiv hy h0).ex h
theorem Ex.feq (hx : Ex k x p) (hy : Ex k y q) : feq k x y = decide (p = q) := by rw [feq_ev hx.nan hy.nan, hx.e, hy.e]
theorem Ex.flt (hx : Ex k x p) (hy : Ex k y q) : flt k x y = decide (p < q) := by rw [flt_ev hx.nan hy.nan, hx.e, hy.e]
theorem Ex.fle (hx : Ex k x p) (hy : Ex k y q) : fle k x y = decide (p ≤ q) := by rw [fle_ev hx.nan hy.nan, hx.e, hy.e]
theorem Ex.fgt (hx : Ex k x p) (hy : Ex k y q) : fgt k x y = decide (q < p) := by rw [fgt_ev hx.nan hy.nan, hx.e, hy.e]
theorem Ex.fge (hx : Ex k x p) (hy : Ex k y q) : fge k x y = decide (q ≤ p) := by rw [fge_ev hx.nan hy.nan, hx.e, hy.e]
/-- Two words of one number that is not zero are one word. -/
theorem Ex.inj (hx : Ex k x p) (hy : Ex k y p) (h0 : p ≠ 0) : x = y := ev_inj hx.l hy.l (by rw [hx.e, hy.e]) (by rw [hx.e]; exact h0)

/-! ### which numbers are words -/
theorem rep_int {n : Int} {e : Int} (hn : n.natAbs ≤ 2 * k.format.binade) (he : k.format.leastPlace ≤ e) (hi : (n.natAbs : Rat) * pw e < mg k.format (infOf k)) : Rep k ((n : Rat) * pw e) := by
  have h := rep_nat hn he hi
  by_cases h0 : 0 ≤ n
  · have : (n : Rat) = (n.natAbs : Rat) := by
      have : n = (n.natAbs : Int) := by omega
      exact congrArg (fun z : Int => (z : Rat)) this
    rw [this]; exact h
  · have : (n : Rat) = -(n.natAbs : Rat) := by
      have : n = -(n.natAbs : Int) := by omega
      have := congrArg (fun z : Int => (z : Rat)) this
      rw [Rat.intCast_neg] at this
      exact this
    rw [this, Rat.neg_mul]
    exact h.neg
theorem rep32 (n : Int) (s : Nat) (h : q * ((2 ^ s : Nat) : Rat) = n) (h1 : n.natAbs ≤ 16777216) (h2 : s ≤ 149) : Rep .f32 q := by
  have e : q = (n : Rat) * pw (-(s : Int)) := by
    rw [← h, ← pw_nat, Rat.mul_assoc, ← pw_add, Int.add_right_neg, pw_zero, Rat.mul_one]
  rw [e]
  refine rep_int h1 (by have : FloatKind.f32.format.leastPlace = -149 := rfl; omega) ?_
  rw [mg_inf]
  have a1 : pw (-(s : Int)) ≤ pw 0 := pw_le (by omega)
  have a2 : (n.natAbs : Rat) ≤ ((2 ^ 24 : Nat) : Rat) := Rat.natCast_le_natCast.2 h1
  have a3 : (n.natAbs : Rat) * pw (-(s : Int)) ≤ (n.natAbs : Rat) * pw 0 := Rat.mul_le_mul_of_nonneg_left a1 Rat.natCast_nonneg
  have a4 : pw ((24 : Nat) : Int) < pw 128 := by
    have : pw 128 = ((2 ^ 128 : Nat) : Rat) := pw_nat 128
    rw [pw_nat, this]
    exact Rat.natCast_lt_natCast.2 (by decide)
  rw [pw_nat] at a4
  rw [pw_zero] at a3
  have : (n.natAbs : Rat) * pw (-(s : Int)) < pw 128 := by grind
  exact this
/-! ### integers as floats -/
/-! ### signs -/
theorem xor_low {n r : Nat} (h : r < 2 ^ n) : r ^^^ 2 ^ n = 2 ^ n + r := by
  apply Nat.eq_of_testBit_eq
  intro i
  rw [Nat.testBit_xor, Nat.testBit_two_pow]
  rcases Nat.lt_trichotomy i n with hi | hi | hi
  · rw [Nat.testBit_two_pow_add_gt hi, decide_eq_false (by omega), Bool.xor_false]
  · subst hi
    rw [Nat.testBit_two_pow_add_eq, Nat.testBit_lt_two_pow h]
    simp
  · have h1 : 2 ^ n + r < 2 ^ i := by
      have : 2 ^ (n + 1) ≤ 2 ^ i := Nat.pow_le_pow_right (by omega) hi
      rw [Nat.pow_succ] at this
      omega
    rw [Nat.testBit_lt_two_pow h1, Nat.testBit_lt_two_pow (by omega : r < 2 ^ i), decide_eq_false (by omega)]
    rfl
theorem sign_two (k : FloatKind) : ∃ n, signOf k = 2 ^ n := by
  cases k
  · exact ⟨31, rfl⟩
  · exact ⟨63, rfl⟩
theorem xor_word (k : FloatKind) {s : Bool} {r : Nat} (h : r ≤ infOf k) : k.format.word s r ^^^ signOf k = k.format.word (!s) r := by
  obtain ⟨n, hn⟩ := sign_two k
  have h2 := inf_lt_sign k
  unfold Format.word
  rw [sign_eq, hn]
  have := xor_low (n := n) (r := r) (by omega)
  cases s
  · simp only [Bool.not_false, Bool.false_eq_true, if_false, if_true]
    exact this
  · simp only [Bool.not_true, Bool.false_eq_true, if_false, if_true]
    rw [← this, Nat.xor_assoc, Nat.xor_self, Nat.xor_zero]
theorem fneg_word (hx : Go.Ev.nan k x = false) (hl : x < 2 * signOf k) : fneg k x = k.format.word (!sg k x) (rung k x) := by
  have hr := nan_false.1 hx
  unfold fneg
  have h1 := xor_word k (s := sg k x) hr
  rw [word_of hl] at h1
  rw [h1, canon_not (nan_word _ hr)]
theorem fneg_ev (hx : Go.Ev.nan k x = false) (hl : x < 2 * signOf k) : ev k (fneg k x) = -ev k x ∧ Go.Ev.nan k (fneg k x) = false ∧ fneg k x < 2 * signOf k ∧ rung k (fneg k x) = rung k x ∧ sg k (fneg k x) = !sg k x := by
  have hr := nan_false.1 hx
  rw [fneg_word hx hl]
  have hw := word_sg (k := k) (s := !sg k x) hr
  refine ⟨?_, nan_word _ hr, hw.2.2, hw.2.1, hw.1⟩
  rw [ev_word hr, sgd_not]; rfl
theorem Ex.neg (hx : Ex k x p) : Ex k (fneg k x) (-p) := by
  obtain ⟨h1, h2, h3, h4, _⟩ := fneg_ev hx.nan hx.l
  exact ⟨by rw [fin_iff, h4]; exact fin_iff.1 hx.f, h3, by rw [h1, hx.e]⟩

/-! ### finite or not -/
theorem sub_self (hl : x < 2 * signOf k) : Go.Ev.feq k (fsub k x x) 0 = fin k x := by
  have z : Ex k 0 0 := ⟨by cases k <;> decide, by cases k <;> decide, (ev_zero (by cases k <;> decide)).2 (.inl rfl)⟩
  by_cases h : fin k x = true
  · have hx : Ex k x (ev k x) := ⟨h, hl, rfl⟩
    have h0 : ev k x - ev k x = 0 := by grind
    have := (hx.sub hx (by rw [h0]; exact z.rep)).feq z
    rw [this, h0, h]; simp
  · have hf : fin k x = false := by simpa using h
    rw [hf]
    have : fsub k x x = qnan k := by
      unfold fsub Format.sub
      cases hn : Go.Ev.nan k x with
      | true =>
        obtain ⟨s, t, e⟩ := read_nan hn
        rw [e]; rfl
      | false =>
        have hr := nan_false.1 hn
        have : ¬ rung k x < infOf k := fun hc => h (fin_iff.2 hc)
        rw [read_inf (by omega)]
        cases sg k x <;> rfl
    rw [this]
    exact feq_nan (.inl (nan_qnan k))

/-! ### from kind to kind -/
theorem read_fin2 {b : Nat} (h : fin k b = true) : ∃ m e, k.format.read b = .number (sg k b) m e ∧ (m : Rat) * pw e = mg k.format (rung k b) ∧ m < 2 * k.format.binade ∧ k.format.leastPlace ≤ e := by
  obtain ⟨m, e, h1, h2⟩ := read_fin h
  refine ⟨m, e, h1, h2, ?_⟩
  rw [fin_iff] at h
  unfold Format.read at h1
  simp only [sign_eq, inf_eq] at h1
  unfold rung at h
  have b0 := B0 k.format
  by_cases g1 : b % signOf k < k.format.binade
  · rw [if_pos g1] at h1
    injection h1 with _ h3 h4
    subst h3; subst h4
    exact ⟨by omega, Int.le_refl _⟩
  · rw [if_neg g1, if_pos h] at h1
    injection h1 with _ h3 h4
    subst h3; subst h4
    have := Nat.mod_lt (b % signOf k) b0
    exact ⟨by omega, by omega⟩
theorem widen_ex {b : Nat} (h : Ex .f32 b q) : Ex .f64 (widen b) q := by
  obtain ⟨m, e, h1, h2, h3, h4⟩ := read_fin2 h.f
  have hq : sgd (sg .f32 b) ((m : Rat) * pw e) = q := by rw [h2]; exact h.e
  have hw : widen b = FloatKind.f64.format.nearest (sg .f32 b) m e := by
    unfold widen FloatKind.encode FloatKind.decode
    rw [h.nan, h1]
    rfl
  rw [hw]
  refine (Rnd.of hq).ex ?_
  have hr : Rep .f64 ((m : Rat) * pw e) := by
    refine rep_nat ?_ ?_ ?_
    · have : FloatKind.f32.format.binade = 8388608 := rfl
      have : FloatKind.f64.format.binade = 4503599627370496 := rfl
      omega
    · have : FloatKind.f32.format.leastPlace = -149 := rfl
      have : FloatKind.f64.format.leastPlace = -1074 := rfl
      omega
    · rw [h2]
      have a1 := mg_lt FloatKind.f32.format (fin_iff.1 h.f)
      have a2 : mg FloatKind.f32.format (infOf .f32) = pw 128 := mg_inf .f32
      have a3 : mg FloatKind.f64.format (infOf .f64) = pw 1024 := mg_inf .f64
      have a4 : pw 128 ≤ pw 1024 := pw_le (by omega)
      rw [a3]; rw [a2] at a1
      grind
  rw [← hq]
  cases sg .f32 b
  · exact hr
  · exact hr.neg
theorem narrow_rnd {b : Nat} (h : Ex .f64 b q) : Rnd .f32 q (narrow b) := by
  obtain ⟨m, e, h1, h2, h3, h4⟩ := read_fin2 h.f
  have hq : sgd (sg .f64 b) ((m : Rat) * pw e) = q := by rw [h2]; exact h.e
  have hw : narrow b = FloatKind.f32.format.nearest (sg .f64 b) m e := by
    unfold narrow FloatKind.encode FloatKind.decode
    rw [h.nan, h1]
    rfl
  rw [hw]
  exact Rnd.of hq
theorem ovf_false {b : Nat} (h : Ex .f64 b q) (h2 : fin .f32 (narrow b) = true) : ovf b = false := by
  obtain ⟨m, e, h1, _⟩ := read_fin2 h.f
  have hw : narrow b = FloatKind.f32.encode (.number (sg .f64 b) m e) := by
    unfold narrow FloatKind.decode
    rw [h.nan, h1]
    rfl
  unfold ovf FloatKind.decode
  rw [h1]
  simp only []
  rw [← hw]
  obtain ⟨m', e', g1, _⟩ := read_fin2 h2
  rw [g1]
  rfl
theorem narrow_ex {b : Nat} (h : Ex .f64 b q) (hr : Rep .f32 q) : Ex .f32 (narrow b) q ∧ ovf b = false := by
  have := (narrow_rnd h).ex hr
  exact ⟨this, ovf_false h this.f⟩

end Fl
end Go.Ev

/- Floats as rational numbers: the order of words, the next word, and between two words. -/
set_option linter.unusedVariables false
set_option linter.unusedSimpArgs false
namespace Go.Ev
open Ieee

namespace Fl
variable {k : FloatKind} {x y : Nat}

/-- The place of a word among all words that are numbers. -/
def pos (k : FloatKind) (x : Nat) : Int := bif sg k x then -(rung k x : Int) else (rung k x : Int)
theorem ev_lt_iff : ev k x < ev k y ↔ pos k x < pos k y := by
  have nx := mg_nonneg k.format (rung k x)
  have ny := mg_nonneg k.format (rung k y)
  unfold ev pos
  cases s1 : sg k x <;> cases s2 : sg k y <;> simp only [sgd, cond_true, cond_false]
  · constructor
    · intro h; have := lt_of_mg _ h; omega
    · intro h; exact mg_lt _ (by omega)
  · constructor
    · intro h; grind
    · intro h; omega
  · constructor
    · intro h
      by_cases h1 : rung k x = 0
      · by_cases h2 : rung k y = 0
        · rw [h1, h2, mg_zero] at h; grind
        · omega
      · omega
    · intro h
      have z := mg_zero k.format
      by_cases h1 : rung k x = 0
      · have := mg_lt k.format (show 0 < rung k y by omega)
        grind
      · have := mg_lt k.format (show 0 < rung k x by omega)
        grind
  · constructor
    · intro h
      have := lt_of_mg k.format (show mg k.format (rung k y) < mg k.format (rung k x) by grind)
      omega
    · intro h
      have := mg_lt k.format (show rung k y < rung k x by omega)
      grind
theorem ev_eq_iff : ev k x = ev k y ↔ pos k x = pos k y := by
  have h1 := @ev_lt_iff k x y
  have h2 := @ev_lt_iff k y x
  constructor
  · intro h
    have := fun c => h1.2 c
    have := fun c => h2.2 c
    have a : ¬ pos k x < pos k y := fun c => by have := h1.2 c; grind
    have b : ¬ pos k y < pos k x := fun c => by have := h2.2 c; grind
    omega
  · intro h
    have a : ¬ ev k x < ev k y := fun c => by have := h1.1 c; omega
    have b : ¬ ev k y < ev k x := fun c => by have := h2.1 c; omega
    grind
theorem ev_le_iff : ev k x ≤ ev k y ↔ pos k x ≤ pos k y := by
  have h2 := @ev_lt_iff k y x
  rw [← Rat.not_lt, h2]
  omega
section
variable (hx : nan k x = false) (hy : nan k y = false)
include hx hy
end

theorem fin_pos (hx : nan k x = false) : fin k x = true ↔ -(infOf k : Int) < pos k x ∧ pos k x < infOf k := by
  have := nan_false.1 hx
  rw [fin_iff]
  unfold pos
  cases sg k x <;> simp only [cond_true, cond_false] <;> omega

theorem x_cases (hl : x < 2 * signOf k) : (sg k x = false ∧ x = rung k x) ∨ (sg k x = true ∧ x = signOf k + rung k x) := by
  have := word_of hl
  unfold Format.word at this
  rw [sign_eq] at this
  cases h : sg k x <;> simp only [h, Bool.false_eq_true, if_false, if_true] at this
  · exact .inl ⟨rfl, this.symm⟩
  · exact .inr ⟨rfl, this.symm⟩
/-! ### between two words -/
theorem Near.tie_val {f : Format} {a : Rat} {r t : Nat} (h : Near f a r) (ht : t < f.infRung) (e : a = (mg f t + mg f (t + 1)) / 2) : r = t + t % 2 := h.tie t ht (by grind)
theorem Rnd.tie {b t : Nat} {s : Bool} (h : Rnd k (sgd s ((mg k.format t + mg k.format (t + 1)) / 2)) b) (ht : t < infOf k) : ev k b = sgd s (mg k.format (t + t % 2)) := by
  obtain ⟨s', r, rfl, h1, h2⟩ := h
  have hi := h2.inf
  rw [inf_eq] at hi
  have n1 := mg_nonneg k.format t
  have n2 := mg_lt k.format (show t < t + 1 by omega)
  have hs : s' = s := by
    cases s <;> cases s' <;> first | rfl | (exfalso; simp only [sgd, cond_true, cond_false] at h1; grind)
  subst hs
  rw [sgd_sgd] at h2
  have := h2.tie_val (by rw [inf_eq]; exact ht) rfl
  rw [ev_word hi, this]
theorem Rnd.lower {b t : Nat} {s : Bool} {a : Rat} (h : Rnd k (sgd s a) b) (ht : t < infOf k) (g0 : 0 < a) (g1 : mg k.format t ≤ a) (g2 : 2 * a < mg k.format t + mg k.format (t + 1)) : ev k b = sgd s (mg k.format t) := by
  obtain ⟨s', r, rfl, h1, h2⟩ := h
  have hi := h2.inf
  rw [inf_eq] at hi
  have hs : s' = s := by
    cases s <;> cases s' <;> first | rfl | (exfalso; simp only [sgd, cond_true, cond_false] at h1; grind)
  subst hs
  rw [sgd_sgd] at h2
  have a1 := h2.lo t (by rw [inf_eq]; omega) g1
  have a2 := h2.lt t (by rw [inf_eq]; omega) g2
  rw [ev_word hi, show r = t by omega]
theorem Rnd.upper {b t : Nat} {s : Bool} {a : Rat} (h : Rnd k (sgd s a) b) (ht : t < infOf k) (g0 : 0 < a) (g1 : a ≤ mg k.format (t + 1)) (g2 : mg k.format t + mg k.format (t + 1) < 2 * a) : ev k b = sgd s (mg k.format (t + 1)) := by
  obtain ⟨s', r, rfl, h1, h2⟩ := h
  have hi := h2.inf
  rw [inf_eq] at hi
  have hs : s' = s := by
    cases s <;> cases s' <;> first | rfl | (exfalso; simp only [sgd, cond_true, cond_false] at h1; grind)
  subst hs
  rw [sgd_sgd] at h2
  have a1 := h2.hi (t + 1) g1
  have a2 := h2.gt t (by rw [inf_eq]; omega) g2
  rw [ev_word hi, show r = t + 1 by omega]

end Fl
end Go.Ev

/- Floats as rational numbers: the middle of two neighbours. -/
set_option linter.unusedVariables false
set_option linter.unusedSimpArgs false
namespace Go.Ev
open Ieee

namespace Fl
variable {k : FloatKind} {x y : Nat}

theorem fin_of_ev {b w : Nat} (hb : nan k b = false) (hw : fin k w = true) (e : ev k b = ev k w) : fin k b = true := by
  have h1 := (fin_pos (fin_nan hw)).1 hw
  rw [fin_pos hb, ev_eq_iff.1 e]
  exact h1
theorem ev_of_pos {s : Bool} {r : Nat} (h : pos k x = bif s then -(r : Int) else (r : Int)) : ev k x = sgd s (mg k.format r) := by
  have z := mg_zero k.format
  unfold pos at h
  unfold ev
  cases s1 : sg k x <;> cases s <;> rw [s1] at h <;> simp only [cond_true, cond_false] at h <;> simp only [sgd, cond_true, cond_false]
  · rw [show rung k x = r by omega]
  · have h1 : rung k x = 0 := by omega
    have h2 : r = 0 := by omega
    rw [h1, h2, z]; rfl
  · have h1 : rung k x = 0 := by omega
    have h2 : r = 0 := by omega
    rw [h1, h2, z]; rfl
  · rw [show rung k x = r by omega]

theorem rep64_pw {n : Nat} {e : Int} {s : Bool} (hn : n ≤ 9007199254740992) (h1 : -1074 ≤ e) (h2 : e ≤ 900) : Rep .f64 (sgd s ((n : Rat) * pw e)) := by
  have h : Rep .f64 ((n : Rat) * pw e) := by
    refine rep_nat hn h1 ?_
    rw [mg_inf]
    have a1 : pw e ≤ pw 900 := pw_le h2
    have a2 : (n : Rat) ≤ ((2 ^ 53 : Nat) : Rat) := Rat.natCast_le_natCast.2 hn
    have a3 : (n : Rat) * pw e ≤ (n : Rat) * pw 900 := Rat.mul_le_mul_of_nonneg_left a1 Rat.natCast_nonneg
    have a4 : (n : Rat) * pw 900 ≤ ((2 ^ 53 : Nat) : Rat) * pw 900 := Rat.mul_le_mul_of_nonneg_right a2 (Rat.le_of_lt (pw_pos _))
    have a5 : ((2 ^ 53 : Nat) : Rat) * pw 900 = pw 953 := by rw [← pw_nat, ← pw_add]; rfl
    have a6 := pw_succ 953
    have a7 := pw_pos 953
    have a8 : pw (953 + 1) ≤ pw 1024 := pw_le (by omega)
    have : (n : Rat) * pw e < pw 1024 := by grind
    exact this
  cases s
  · exact h
  · exact h.neg

theorem ex_two : Ex .f64 4611686018427387904 2 := by
  refine ⟨by decide, by decide, ?_⟩
  have h : mg FloatKind.f64.format (1023 * FloatKind.f64.format.binade + FloatKind.f64.format.binade) = _ := mg_at FloatKind.f64.format 1023 FloatKind.f64.format.binade (by omega) (.inr (Nat.le_refl _))
  rw [show 1023 * FloatKind.f64.format.binade + FloatKind.f64.format.binade = rung .f64 4611686018427387904 by decide +kernel, show FloatKind.f64.format.binade = 2 ^ 52 from rfl, ← pw_nat, ← pw_add] at h
  have : sg .f64 4611686018427387904 = false := by decide
  unfold ev
  rw [this, h, show ((52 : Nat) : Int) + (FloatKind.f64.format.leastPlace + (1023 : Nat)) = 0 + 1 from rfl, pw_succ, pw_zero]
  exact Rat.mul_one 2

theorem par_rung {s : Bool} {t : Nat} (px : pos .f32 x = (bif s then -((t + 1 : Nat) : Int) else (t : Int))) (lx : x < 2 * signOf .f32) : x % 2 = (bif s then t + 1 else t) % 2 := by
  obtain ⟨n, hs2⟩ : ∃ n, signOf .f32 = 2 * n := ⟨1073741824, rfl⟩
  have hrg : rung .f32 x = (bif s then t + 1 else t) := by
    unfold pos at px
    cases h1 : sg .f32 x <;> cases s <;> rw [h1] at px <;> simp only [cond_true, cond_false] at px ⊢ <;> omega
  rw [← hrg]
  have := x_cases lx
  rw [hs2] at this
  rcases this with ⟨_, b⟩ | ⟨_, b⟩ <;> omega
/-- The middle of two neighbours, and the middles between it and them, as 32-bit numbers. -/
theorem narrowed (hx : fin .f32 x = true) (lx : x < 2 * signOf .f32) (hy : fin .f32 y = true) (ly : y < 2 * signOf .f32) (hp : pos .f32 y = pos .f32 x + 1)
    {mid low high : Nat} (e1 : mid = fdiv .f64 (fadd .f64 (widen x) (widen y)) 4611686018427387904) (e2 : low = fdiv .f64 (fadd .f64 (widen x) mid) 4611686018427387904)
    (e3 : high = fdiv .f64 (fadd .f64 (widen y) mid) 4611686018427387904) :
    (ovf mid = false ∧ ovf low = false ∧ ovf high = false) ∧ (feq .f32 (narrow low) x = true ∧ feq .f32 (narrow high) y = true) ∧ feq .f32 (narrow mid) (if x % 2 = 1 then y else x) = true := by
  -- the two rungs
  obtain ⟨s, t, ht, px, py⟩ : ∃ (s : Bool) (t : Nat), t + 1 < infOf .f32 ∧ pos .f32 x = (bif s then -((t + 1 : Nat) : Int) else (t : Int)) ∧ pos .f32 y = (bif s then -((t : Nat) : Int) else ((t + 1 : Nat) : Int)) := by
    have r1 := (fin_pos (fin_nan hx)).1 hx
    have r2 := (fin_pos (fin_nan hy)).1 hy
    by_cases h : 0 ≤ pos .f32 x
    · exact ⟨false, (pos .f32 x).toNat, by omega, by simp only [cond_false]; omega, by simp only [cond_false]; omega⟩
    · exact ⟨true, (-pos .f32 x - 1).toNat, by omega, by simp only [cond_true]; omega, by simp only [cond_true]; omega⟩
  have vx : ev .f32 x = sgd s (mg FloatKind.f32.format (bif s then t + 1 else t)) := ev_of_pos (by rw [px]; cases s <;> rfl)
  have vy : ev .f32 y = sgd s (mg FloatKind.f32.format (bif s then t else t + 1)) := ev_of_pos (by rw [py]; cases s <;> rfl)
  obtain ⟨p, j, rfl, j1, j2⟩ := scale FloatKind.f32.format t
  have hB : FloatKind.f32.format.binade = 8388608 := rfl
  have hL : FloatKind.f32.format.leastPlace = -149 := rfl
  have hI : infOf .f32 = 2139095040 := rfl
  have m0 : mg FloatKind.f32.format (p * FloatKind.f32.format.binade + j) = (j : Rat) * pw (-149 + p) := mg_at _ p j (by omega) j2
  have m1 : mg FloatKind.f32.format (p * FloatKind.f32.format.binade + j + 1) = ((j : Rat) + 1) * pw (-149 + p) := by
    rw [Nat.add_assoc, mg_at _ p (j + 1) (by omega) (by omega), Rat.natCast_add]; rfl
  have hpp : p ≤ 300 := by
    have h := ht
    rw [hB] at h
    omega
  -- exact steps
  have Xx : Ex .f32 x (ev .f32 x) := ⟨hx, lx, rfl⟩
  have Xy : Ex .f32 y (ev .f32 y) := ⟨hy, ly, rfl⟩
  have Wx := widen_ex Xx
  have Wy := widen_ex Xy
  have q1 : pw (-149 + p) = 2 * pw (-150 + p) := by rw [← pw_succ]; congr 1; omega
  have q2 : pw (-150 + p) = 2 * pw (-151 + p) := by rw [← pw_succ]; congr 1; omega
  have c2 : ∀ n : Nat, ((2 * n + 1 : Nat) : Rat) = 2 * (n : Rat) + 1 := fun n => by rw [Rat.natCast_add, Rat.natCast_mul]; rfl
  have c4 : ∀ n : Nat, ((4 * n + 1 : Nat) : Rat) = 4 * (n : Rat) + 1 := fun n => by rw [Rat.natCast_add, Rat.natCast_mul]; rfl
  have c43 : ∀ n : Nat, ((4 * n + 3 : Nat) : Rat) = 4 * (n : Rat) + 3 := fun n => by rw [Rat.natCast_add, Rat.natCast_mul]; rfl
  have S1 : ev .f32 x + ev .f32 y = sgd s (((2 * j + 1 : Nat) : Rat) * pw (-149 + p)) := by
    rw [vx, vy, c2]
    cases s <;> simp only [sgd, cond_true, cond_false] <;> rw [m0, m1] <;> grind
  have A1 := Wx.add Wy (by rw [S1]; exact rep64_pw (by omega) (by omega) (by omega))
  have S2 : (ev .f32 x + ev .f32 y) / 2 = sgd s (((2 * j + 1 : Nat) : Rat) * pw (-150 + p)) := by
    rw [S1, q1]
    cases s <;> simp only [sgd, cond_true, cond_false] <;> grind
  have A2 := A1.div ex_two (by decide) (by rw [S2]; exact rep64_pw (by omega) (by omega) (by omega))
  rw [← e1] at A2
  have S3 : ev .f32 x + (ev .f32 x + ev .f32 y) / 2 = sgd s (((bif s then 4 * j + 3 else 4 * j + 1 : Nat) : Rat) * pw (-150 + p)) := by
    rw [S2, vx, c2]
    cases s <;> simp only [sgd, cond_true, cond_false] <;> first | rw [m0, c4, q1] | rw [m1, c43, q1]
    all_goals grind
  have S4 : ev .f32 y + (ev .f32 x + ev .f32 y) / 2 = sgd s (((bif s then 4 * j + 1 else 4 * j + 3 : Nat) : Rat) * pw (-150 + p)) := by
    rw [S2, vy, c2]
    cases s <;> simp only [sgd, cond_true, cond_false] <;> first | rw [m0, c4, q1] | rw [m1, c43, q1]
    all_goals grind
  have A3 := Wx.add A2 (by rw [S3]; exact rep64_pw (by cases s <;> simp only [cond_true, cond_false] <;> omega) (by omega) (by omega))
  have A4 := Wy.add A2 (by rw [S4]; exact rep64_pw (by cases s <;> simp only [cond_true, cond_false] <;> omega) (by omega) (by omega))
  have S5 : (ev .f32 x + (ev .f32 x + ev .f32 y) / 2) / 2 = sgd s (((bif s then 4 * j + 3 else 4 * j + 1 : Nat) : Rat) * pw (-151 + p)) := by
    rw [S3, q2]
    cases s <;> simp only [sgd, cond_true, cond_false] <;> grind
  have S6 : (ev .f32 y + (ev .f32 x + ev .f32 y) / 2) / 2 = sgd s (((bif s then 4 * j + 1 else 4 * j + 3 : Nat) : Rat) * pw (-151 + p)) := by
    rw [S4, q2]
    cases s <;> simp only [sgd, cond_true, cond_false] <;> grind
  have A5 := A3.div ex_two (by decide) (by rw [S5]; exact rep64_pw (by cases s <;> simp only [cond_true, cond_false] <;> omega) (by omega) (by omega))
  have A6 := A4.div ex_two (by decide) (by rw [S6]; exact rep64_pw (by cases s <;> simp only [cond_true, cond_false] <;> omega) (by omega) (by omega))
  rw [← e2] at A5
  rw [← e3] at A6
  -- rounded
  have N1 := narrow_rnd A2
  have N2 := narrow_rnd A5
  have N3 := narrow_rnd A6
  have hu := pw_pos (-151 + p)
  have hj : (0 : Rat) ≤ (j : Rat) := Rat.natCast_nonneg
  have hju := Rat.mul_nonneg hj (Rat.le_of_lt hu)
  have R1 : ev .f32 (narrow mid) = sgd s (mg FloatKind.f32.format (p * FloatKind.f32.format.binade + j + (p * FloatKind.f32.format.binade + j) % 2)) := by
    refine Rnd.tie (k := .f32) ?_ (by omega)
    have : sgd s ((mg FloatKind.f32.format (p * FloatKind.f32.format.binade + j) + mg FloatKind.f32.format (p * FloatKind.f32.format.binade + j + 1)) / 2) = (ev .f32 x + ev .f32 y) / 2 := by
      rw [S2, m0, m1, c2, q1]
      cases s <;> simp only [sgd, cond_true, cond_false] <;> grind
    rw [this]; exact N1
  have lowF : ∀ {b}, Rnd .f32 (sgd s (((4 * j + 1 : Nat) : Rat) * pw (-151 + p))) b → ev .f32 b = sgd s (mg FloatKind.f32.format (p * FloatKind.f32.format.binade + j)) := by
    intro b hb
    refine hb.lower (by omega) ?_ ?_ ?_
    · rw [c4]; grind
    · rw [m0, c4]; grind
    · rw [m0, m1, c4]; grind
  have upF : ∀ {b}, Rnd .f32 (sgd s (((4 * j + 3 : Nat) : Rat) * pw (-151 + p))) b → ev .f32 b = sgd s (mg FloatKind.f32.format (p * FloatKind.f32.format.binade + j + 1)) := by
    intro b hb
    refine hb.upper (by omega) ?_ ?_ ?_
    · rw [c43]; grind
    · rw [m1, c43]; grind
    · rw [m0, m1, c43]; grind
  have R2 : ev .f32 (narrow low) = ev .f32 x := by
    rw [S5] at N2
    rw [vx]
    cases s
    · exact lowF N2
    · exact upF N2
  have R3 : ev .f32 (narrow high) = ev .f32 y := by
    rw [S6] at N3
    rw [vy]
    cases s
    · exact upF N3
    · exact lowF N3
  have par : x % 2 = (bif s then p * FloatKind.f32.format.binade + j + 1 else p * FloatKind.f32.format.binade + j) % 2 := par_rung px lx
  have R1' : ev .f32 (narrow mid) = ev .f32 (if x % 2 = 1 then y else x) := by
    rw [R1, par]
    cases s
    · simp only [cond_false] at vx vy ⊢
      by_cases h : (p * FloatKind.f32.format.binade + j) % 2 = 1
      · rw [if_pos h, h, vy]
      · rw [if_neg h, show (p * FloatKind.f32.format.binade + j) % 2 = 0 by omega, Nat.add_zero, vx]
    · simp only [cond_true] at vx vy ⊢
      by_cases h : (p * FloatKind.f32.format.binade + j) % 2 = 1
      · rw [if_neg (by omega), h, vx]
      · rw [if_pos (by omega), show (p * FloatKind.f32.format.binade + j) % 2 = 0 by omega, Nat.add_zero, vy]
  have fe : fin .f32 (if x % 2 = 1 then y else x) = true := by
    by_cases h : x % 2 = 1
    · rw [if_pos h]; exact hy
    · rw [if_neg h]; exact hx
  refine ⟨⟨ovf_false A2 (fin_of_ev N1.nan fe R1'), ovf_false A5 (fin_of_ev N2.nan hx R2), ovf_false A6 (fin_of_ev N3.nan hy R3)⟩, ⟨?_, ?_⟩, ?_⟩
  · rw [feq_ev N2.nan (fin_nan hx), decide_eq_true R2]
  · rw [feq_ev N3.nan (fin_nan hy), decide_eq_true R3]
  · rw [feq_ev N1.nan (fin_nan fe), decide_eq_true R1']

end Fl
end Go.Ev

