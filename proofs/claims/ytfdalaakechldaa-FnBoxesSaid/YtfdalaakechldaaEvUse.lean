/- How a function's equation becomes a fact that its callers may use. -/
import Derived.Test.YtfdalaakechldaaEvOwn
set_option linter.unusedVariables false
set_option linter.unusedSimpArgs false
namespace Go.Ev

abbrev Sm := List V → Heap → (V → Heap → Prop) → Prop

def look : List (FuncId × Sm) → FuncId → Sm
  | [], _ => fun _ _ _ => False
  | (k, S) :: r, f => bif Nat.beq f k then S else look r f

theorem fnOk_none (P : Program) (k : FuncId) : FnOk P k (fun _ _ _ => False) := fun _ _ h => h.elim

/-- The callees that a function may use, each with its proof. -/
inductive Known (P : Program) : List (FuncId × Sm) → Prop
  | nil : Known P []
  | cons {k : FuncId} {S : Sm} {r : List (FuncId × Sm)} : FnOk P k S → Known P r → Known P ((k, S) :: r)

theorem known_ok {P : Program} : ∀ {l : List (FuncId × Sm)}, Known P l → ∀ f, FnOk P f (look l f)
  | _, .nil, f => fnOk_none P f
  | _, .cons (k := k) (S := S) (r := r) h t, f => by
    show FnOk P f (bif Nat.beq f k then S else look r f)
    cases e : Nat.beq f k with
    | true => rw [beq_true e]; exact h
    | false => exact known_ok t f

def mkCtx (P : Program) (ty : TypeId → Ty) (l : List (FuncId × Sm)) (n : Nat) (ann : Nat → Option Ann) : Ctx :=
  { ti := tiOf P ty, call := look l, pass := fun _ => .view, ntmps := n, ann := ann }

/-- The type of a slice's elements. -/
def tyNest : List Ty → Ty
  | [] => .unit
  | [a] => a
  | a :: r => .pair a (tyNest r)
def tyFlat (P : Program) : Nat → TypeId → Ty
  | 0, _ => .unit
  | n + 1, t => match P.underlying t with
    | some (.int k) => .int k
    | some (.float k) => .float k
    | some .bool => .bool
    | some .string => .str
    | some (.slice e) => .slice (tyFlat P n e)
    | some (.struct fs) => tyNest (fs.toList.map fun f => tyFlat P n f.type)
    | some (.array k e) => tyNest (List.replicate k (tyFlat P n e))
    | _ => .unit
def elemTy (P : Program) (t : TypeId) : Ty := match P.underlying t with
  | some (.slice e) => tyFlat P 8 e
  | _ => .unit

/-! ### arguments by their types -/
inductive AT where
  | cell (t : Ty)
  | agg (t : Ty)
  | fn (f : FuncId)
  | ref (t : Ty)
  | clo (f : FuncId) (t : Ty)
  | refp (t : Ty)
  | nothing

@[reducible] def AT.den : AT → Type
  | .cell t => t.den
  | .agg t => t.den
  | .fn _ => Unit
  | .ref t => t.den
  | .clo _ t => t.den
  | .refp t => t.den
  | .nothing => Unit

def decA : (a : AT) → V → Option a.den
  | .cell t, v => bif Nat.beq t.size 1 then (match dec t [v] with
    | some (x, []) => some x
    | _ => none) else none
  | .agg t, .agg vs => match dec t vs with
    | some (x, []) => some x
    | _ => none
  | .fn f, .fn g [] => bif Nat.beq f g then some () else none
  | .ref t, .ref cells off => match dec t (cells.drop off) with
    | some (x, _) => some x
    | none => none
  | .clo f t, .fn g [.ref cells off] => bif Nat.beq f g then (match dec t (cells.drop off) with
    | some (x, _) => some x
    | none => none) else none
  | .refp t, .ref cells off => match cells.drop off with
    | .ref cs o :: _ => match dec t (cs.drop o) with
      | some (x, _) => some x
      | none => none
    | _ => none
  | .nothing, .nils => some ()
  | _, _ => none

def encA : (a : AT) → a.den → V
  | .cell t, x => (enc t x).headD .undef
  | .agg t, x => .agg (enc t x)
  | .fn f, _ => .fn f []
  | .ref t, x => .ref (enc t x) 0
  | .clo f t, x => .fn f [.ref (enc t x) 0]
  | .refp t, x => .ref [.ref (enc t x) 0] 0
  | .nothing, _ => .nils

theorem ref_sound {g : List G} {M : Mem} {t : Ty} {cells : List V} {off : Nat} {x : t.den} {r : List V} (hd : dec t (cells.drop off) = some (x, r)) {c : Value} (hv : VR g M (.ref cells off) c) : VR g M (.ref (enc t x) 0) c := by
  cases hv with
  | ref _ b base _ o cs p1 p2 p3 =>
    have h1 := (dec_sound t hd (p2.drop off)).1
    have hl := h1.length
    rw [List.drop_take, List.drop_drop, List.take_take] at h1
    rw [enc_length, List.length_take, List.length_drop, List.length_take, List.length_drop] at hl
    rw [Nat.min_eq_left (by omega)] at h1
    refine .ref (enc t x) b (base + off) 0 o cs p1 ?_ (by omega)
    rw [enc_length]
    exact h1
theorem decA_sound {g : List G} {M : Mem} {a : AT} {v : V} {x : a.den} (h : decA a v = some x) {c : Value} (hv : VR g M v c) : VR g M (encA a x) c := by
  cases a with
  | nothing =>
    cases v <;> simp only [decA] at h <;> try (cases h; done)
    exact hv
  | cell t =>
    simp only [decA] at h
    cases hts : Nat.beq t.size 1 with
    | false => simp only [hts, cond_false] at h; cases h
    | true =>
    simp only [hts, cond_true] at h
    split at h
    · rename_i y hd
      cases h
      obtain ⟨h1, h2⟩ := dec_sound t hd (cs := [c]) (.cons hv .nil)
      have hl := h1.length
      have hl2 := h2.length
      simp only [encA]
      cases e : enc t x with
      | nil => exact .undef _
      | cons u us =>
        rw [e] at h1
        have hts : t.size ≠ 0 := by
          intro e0
          rw [← enc_length t x, e] at e0
          simp at e0
        rw [List.take_of_length_le (by simp; omega)] at h1
        cases h1 with
        | cons p q => exact p
    · cases h
  | agg t =>
    cases v <;> simp only [decA] at h <;> try (cases h; done)
    split at h
    · rename_i y hd
      cases h
      cases hv with
      | agg _ cs hvs =>
        obtain ⟨h1, h2⟩ := dec_sound t hd hvs
        have hl2 := h2.length
        simp only [encA]
        refine .agg _ cs ?_
        rw [List.take_of_length_le (by simp at hl2 ⊢; omega)] at h1
        exact h1
    · cases h
  | clo f t =>
    cases v <;> simp only [decA] at h <;> try (cases h; done)
    rename_i g vs
    match vs, h, hv with
    | [], h, _ => simp only [decA] at h; cases h
    | [v], h, hv =>
      cases v <;> simp only [decA] at h <;> try (cases h; done)
      rename_i cells off
      cases e : Nat.beq f g with
      | false => rw [e] at h; cases h
      | true =>
        rw [e] at h
        simp only [cond_true] at h
        split at h
        · rename_i y r hd
          cases h
          rw [← beq_true e] at hv
          cases hv with
          | fn _ _ cs0 hvs =>
            generalize hl0 : cs0.toList = l0 at hvs
            cases hvs with
            | cons a b =>
            cases b
            cases a with
            | ref _ b base _ o cs p1 p2 p3 =>
              have h1 := (dec_sound t hd (p2.drop off)).1
              have hl := h1.length
              rw [List.drop_take, List.drop_drop, List.take_take] at h1
              rw [enc_length, List.length_take, List.length_drop, List.length_take, List.length_drop] at hl
              rw [Nat.min_eq_left (by omega)] at h1
              simp only [encA]
              refine .fn f _ cs0 ?_
              rw [hl0]
              refine .cons (.ref (enc t x) b (base + off) 0 o cs p1 ?_ (by omega)) .nil
              rw [enc_length]
              exact h1
        · cases h
    | _ :: _ :: _, h, _ => simp only [decA] at h; cases h
  | ref t =>
    cases v <;> simp only [decA] at h <;> try (cases h; done)
    rename_i cells off
    split at h
    · rename_i y r hd
      cases h
      cases hv with
      | ref _ b base _ o cs p1 p2 p3 =>
        have h1 := (dec_sound t hd (p2.drop off)).1
        have hl := h1.length
        rw [List.drop_take, List.drop_drop, List.take_take] at h1
        rw [enc_length, List.length_take, List.length_drop, List.length_take, List.length_drop] at hl
        rw [Nat.min_eq_left (by omega)] at h1
        simp only [encA]
        refine .ref (enc t x) b (base + off) 0 o cs p1 ?_ (by omega)
        rw [enc_length]
        exact h1
    · cases h
  | refp t =>
    cases v <;> simp only [decA] at h <;> try (cases h; done)
    rename_i cells off
    split at h
    · rename_i cs o r hdr
      split at h
      · rename_i y r' hd
        cases h
        cases hv with
        | ref _ b base _ oo cc p1 p2 p3 =>
          have h1 := p2.drop off
          rw [hdr] at h1
          have hl := h1.length
          generalize hcc : List.drop off (List.take cells.length (List.drop base cc)) = l at h1
          cases h1 with
          | cons q1 q2 =>
            rename_i c1 cs1
            simp only [encA]
            refine .ref [.ref (enc t x) 0] b (base + off) 0 oo cc p1 ?_ (by omega)
            rw [List.drop_take, List.drop_drop] at hcc
            have hlt : off < cells.length := by
              rcases Nat.lt_or_ge off cells.length with h' | h'
              · exact h'
              · rw [List.drop_eq_nil_of_le h'] at hdr; cases hdr
            have e1 : List.take [V.ref (enc t x) 0].length (List.drop (base + off) cc) = [c1] := by
              have := congrArg (List.take 1) hcc
              rw [List.take_take, Nat.min_eq_left (by omega)] at this
              simpa using this
            rw [e1]
            exact .cons (ref_sound hd q1) .nil
      · cases h
    · cases h
  | fn f =>
    cases v <;> simp only [decA] at h <;> try (cases h; done)
    rename_i g vs
    cases vs with
    | nil =>
      simp only [decA] at h
      cases e : Nat.beq f g with
      | true => rw [← beq_true e] at hv; exact hv
      | false => rw [e] at h; cases h
    | cons _ _ => simp only [decA] at h; cases h

@[reducible] def ADen : List AT → Type
  | [] => Unit
  | a :: r => a.den × ADen r

def decAs : (l : List AT) → List V → Option (ADen l)
  | [], [] => some ()
  | a :: r, v :: vs => match decA a v with
    | some x => match decAs r vs with
      | some y => some (x, y)
      | none => none
    | none => none
  | _, _ => none

def encAs : (l : List AT) → ADen l → List V
  | [], _ => []
  | a :: r, x => encA a x.1 :: encAs r x.2

theorem decAs_sound {g : List G} {M : Mem} : ∀ {l : List AT} {vs : List V} {x : ADen l}, decAs l vs = some x → ∀ {cs : List Value}, VRs g M vs cs → VRs g M (encAs l x) cs
  | [], [], x, h, cs, hv => by cases hv; exact .nil
  | [], _ :: _, x, h, cs, hv => by simp only [decAs] at h; cases h
  | _ :: _, [], x, h, cs, hv => by simp only [decAs] at h; cases h
  | a :: r, v :: vs, x, h, cs, hv => by
    simp only [decAs] at h
    split at h
    · rename_i y h1
      split at h
      · rename_i z h2
        cases h
        cases hv with
        | cons p q => exact .cons (decA_sound h1 p) (decAs_sound h2 q)
      · cases h
    · cases h

/-- What is known of a plain value that a function is given. -/
def Wf : (t : Ty) → t.den → Prop
  | .int k, n => k.min ≤ n ∧ n ≤ k.max
  | .float k, b => b < 2 * signOf k ∧ canon k b = b
  | .bool, _ => True
  | .str, s => s.length ≤ maxLen
  | .slice t, xs => xs.length ≤ maxLen ∧ ∀ x ∈ xs, Wf t x
  | .pair a b, x => Wf a x.1 ∧ Wf b x.2
  | .unit, _ => True

theorem wf_of_VRs {g : List G} {M : Mem} : ∀ (t : Ty) (x : t.den) {cs : List Value}, VRs g M (enc t x) cs → Wf t x := by
  intro t
  induction t with
  | int k => intro x cs h; cases h with | cons a b => cases a with | int _ _ h => exact h
  | float k => intro x cs h; cases h with | cons a b => cases a with | float _ _ b' h1 h2 => subst h2; exact ⟨canon_lt h1, canon_canon k b'⟩
  | bool => intro x cs h; trivial
  | str => intro x cs h; cases h with | cons a b => cases a with | str _ _ h1 h2 => exact h2
  | slice t ih =>
    intro xs cs h
    cases h with
    | cons a b =>
      cases a with
      | vecnil => exact ⟨Nat.zero_le _, by simp⟩
      | vec _ _ b off n cap cs p1 p2 p3 p4 =>
        refine ⟨by rw [← p2.1]; exact p2.2, fun x hx => ?_⟩
        obtain ⟨i, hi⟩ := List.mem_iff_getElem?.1 hx
        exact ih x (p4 i x hi)
  | pair a b iha ihb =>
    intro x cs h
    simp only [enc] at h
    obtain ⟨h1, h2⟩ := h.split
    exact ⟨iha x.1 h1, ihb x.2 h2⟩
  | unit => intro x cs h; trivial

def WfA : (a : AT) → a.den → Prop
  | .cell t, x => Wf t x
  | .agg t, x => Wf t x
  | .fn _, _ => True
  | .ref t, x => Wf t x
  | .clo _ t, x => Wf t x
  | .refp t, x => Wf t x
  | .nothing, _ => True

def WfAs : (l : List AT) → ADen l → Prop
  | [], _ => True
  | a :: r, x => WfA a x.1 ∧ WfAs r x.2

/-- A function of typed arguments. -/
def semT (l : List AT) (f : ADen l → V) : Sm := fun args hs K =>
  match decAs l args with
  | some x => K (f x) hs
  | none => False

theorem wfA_of {g : List G} {M : Mem} {a : AT} {v : V} {x : a.den} (h : decA a v = some x) {c : Value} (hv : VR g M v c) : WfA a x := by
  cases a with
  | nothing => trivial
  | cell t =>
    simp only [decA] at h
    cases hts : Nat.beq t.size 1 with
    | false => simp only [hts, cond_false] at h; cases h
    | true =>
    simp only [hts, cond_true] at h
    split at h
    · rename_i y hd
      cases h
      exact wf_of_VRs t x (dec_sound t hd (cs := [c]) (.cons hv .nil)).1
    · cases h
  | agg t =>
    cases v <;> simp only [decA] at h <;> try (cases h; done)
    split at h
    · rename_i y hd
      cases h
      cases hv with
      | agg _ cs hvs => exact wf_of_VRs t x (dec_sound t hd hvs).1
    · cases h
  | ref t =>
    cases v <;> simp only [decA] at h <;> try (cases h; done)
    rename_i cells off
    split at h
    · rename_i y r hd
      cases h
      cases hv with
      | ref _ b base _ o cs p1 p2 p3 => exact wf_of_VRs t x (dec_sound t hd (p2.drop off)).1
    · cases h
  | clo f t =>
    cases v <;> simp only [decA] at h <;> try (cases h; done)
    rename_i g vs
    match vs, h, hv with
    | [], h, _ => simp only [decA] at h; cases h
    | [v], h, hv =>
      cases v <;> simp only [decA] at h <;> try (cases h; done)
      rename_i cells off
      cases e : Nat.beq f g with
      | false => rw [e] at h; cases h
      | true =>
        rw [e] at h
        simp only [cond_true] at h
        split at h
        · rename_i y r hd
          cases h
          cases hv with
          | fn _ _ cs0 hvs =>
            generalize hl0 : cs0.toList = l0 at hvs
            cases hvs with
            | cons a b =>
            cases a with
            | ref _ b base _ o cs p1 p2 p3 => exact wf_of_VRs t x (dec_sound t hd (p2.drop off)).1
        · cases h
    | _ :: _ :: _, h, _ => simp only [decA] at h; cases h
  | refp t =>
    cases v <;> simp only [decA] at h <;> try (cases h; done)
    rename_i cells off
    split at h
    · rename_i cs o r hdr
      split at h
      · rename_i y r' hd
        cases h
        cases hv with
        | ref _ b base _ oo cc p1 p2 p3 =>
          have h1 := p2.drop off
          rw [hdr] at h1
          generalize List.drop off (List.take cells.length (List.drop base cc)) = l at h1
          cases h1 with
          | cons q1 q2 =>
            cases q1 with
            | ref _ b base _ o cs p1 p2 p3 => exact wf_of_VRs t x (dec_sound t hd (p2.drop _)).1
      · cases h
    · cases h
  | fn f => trivial

theorem wfAs_of {g : List G} {M : Mem} : ∀ {l : List AT} {vs : List V} {x : ADen l}, decAs l vs = some x → ∀ {cs : List Value}, VRs g M vs cs → WfAs l x
  | [], [], x, h, cs, hv => trivial
  | [], _ :: _, x, h, cs, hv => by simp only [decAs] at h; cases h
  | _ :: _, [], x, h, cs, hv => by simp only [decAs] at h; cases h
  | a :: r, v :: vs, x, h, cs, hv => by
    simp only [decAs] at h
    split at h
    · rename_i y h1
      split at h
      · rename_i z h2
        cases h
        cases hv with
        | cons p q => exact ⟨wfA_of h1 p, wfAs_of h2 q⟩
      · cases h
    · cases h

theorem fnOk_typed {P : Program} {k : FuncId} {S : Sm} (hS : FnOk P k S) {l : List AT} {f : ADen l → V} (h : ∀ (x : ADen l), WfAs l x → ∀ (K : V → Heap → Prop), K (f x) [] → S (encAs l x) [] K) : FnOk P k (semT l f) := by
  intro args K hk
  simp only [semT] at hk
  split at hk
  · rename_i x hd
    refine ⟨f x, hk, fun K' h' => ?_, ?_⟩
    · simp only [semT, hd]; exact h'
    · intro w M cargs hv hm hG
      obtain ⟨v, h1, h2, h3⟩ := hS (encAs l x) (fun v hs => v = f x ∧ hs = []) (h x (wfAs_of hd hv) _ ⟨rfl, rfl⟩)
      obtain ⟨rfl, _⟩ := h1
      exact h3 w M cargs (decAs_sound hd hv) hm hG
  · exact hk.elim

/-- A function of typed arguments that is asked only where a test holds. -/
def semG (l : List AT) (gd : ADen l → Bool) (f : ADen l → V) : Sm := fun args hs K =>
  match decAs l args with
  | some x => cond (gd x) (K (f x) hs) False
  | none => False

theorem fnOk_typedG {P : Program} {k : FuncId} {S : Sm} (hS : FnOk P k S) {l : List AT} {gd : ADen l → Bool} {f : ADen l → V} (h : ∀ (x : ADen l), WfAs l x → gd x = true → ∀ (K : V → Heap → Prop), K (f x) [] → S (encAs l x) [] K) : FnOk P k (semG l gd f) := by
  intro args K hk
  simp only [semG] at hk
  split at hk
  · rename_i x hd
    cases hgd : gd x with
    | false => simp only [hgd, cond_false] at hk
    | true =>
    simp only [hgd, cond_true] at hk
    refine ⟨f x, hk, fun K' h' => ?_, ?_⟩
    · simp only [semG, hd, hgd, cond_true]; exact h'
    · intro w M cargs hv hm hG
      obtain ⟨v, h1, h2, h3⟩ := hS (encAs l x) (fun v hs => v = f x ∧ hs = []) (h x (wfAs_of hd hv) hgd _ ⟨rfl, rfl⟩)
      obtain ⟨rfl, _⟩ := h1
      exact h3 w M cargs (decAs_sound hd hv) hm hG
  · exact hk.elim

theorem fnOk_run {P : Program} {C : Ctx} {ty : TypeId → Ty} {kn : List (FuncId × Sm)} {n : Nat} {ann : Nat → Option Ann} (hC : C = mkCtx P ty kn n ann) (hm : P.follows .mixedOrders = true) (hkn : Known P kn)
    {k : FuncId} {fn : Func} (hf : P.funcs[k]? = some fn) (hn : (fn.name == "runtime.NumGoroutine") = false) : FnOk P k (wpFn C fn) := by
  subst hC
  exact fnOk_of_wpFn (C := mkCtx P ty kn n ann) (lok_tiOf P ty _ rfl) ⟨fun f => known_ok hkn f, fun f => known_ok hkn f, fun _ _ he => (by cases he), fun _ _ he => (by cases he)⟩ hm hf hn

/-! ### functions that write what their callers own -/
theorem fnOkO_none (P : Program) (k : FuncId) : FnOkL P k (fun _ _ _ => False) := ⟨fun _ _ _ h => h.elim, fun _ _ _ _ h => h.elim⟩

inductive KnownO (P : Program) : List (FuncId × Sm) → Prop
  | nil : KnownO P []
  | cons {k : FuncId} {S : Sm} {r : List (FuncId × Sm)} : FnOkL P k S → KnownO P r → KnownO P ((k, S) :: r)

theorem knownO_ok {P : Program} : ∀ {l : List (FuncId × Sm)}, KnownO P l → ∀ f, FnOkL P f (look l f)
  | _, .nil, f => fnOkO_none P f
  | _, .cons (k := k) (S := S) (r := r) h t, f => by
    show FnOkL P f (bif Nat.beq f k then S else look r f)
    cases e : Nat.beq f k with
    | true => rw [beq_true e]; exact h
    | false => exact knownO_ok t f

def has : List (FuncId × Sm) → FuncId → Bool
  | [], _ => false
  | (k, _) :: r, f => bif Nat.beq f k then true else has r f

/-- Contracts that change one thing alone. -/
inductive KnownE (P : Program) : List (FuncId × Sm) → Prop
  | nil : KnownE P []
  | cons {k : FuncId} {S : Sm} {r : List (FuncId × Sm)} : FnOkL P k S → LocalE S → KnownE P r → KnownE P ((k, S) :: r)
theorem knownE_ok {P : Program} : ∀ {l : List (FuncId × Sm)}, KnownE P l → ∀ f, FnOkL P f (look l f) ∧ LocalE (look l f)
  | _, .nil, f => ⟨fnOkO_none P f, fun _ _ _ _ _ _ h => h.elim⟩
  | _, .cons (k := k) (S := S) (r := r) h e t, f => by
    show FnOkL P f (bif Nat.beq f k then S else look r f) ∧ LocalE (bif Nat.beq f k then S else look r f)
    cases e' : Nat.beq f k with
    | true => rw [beq_true e']; exact ⟨h, e⟩
    | false => exact knownE_ok t f
/-- Callees that only look, callees that keep what they are given, callees that write. -/
def mkC (P : Program) (ty : TypeId → Ty) (kv kf ko : List (FuncId × Sm)) (n : Nat) (ann : Nat → Option Ann) (base : Nat) (cut : Bool := false) (kd : List (FuncId × Sm) := []) (deep : Bool := false) (mv : Bool := false) (vw : Bool := false) (ke : List (FuncId × Sm) := []) : Ctx :=
  { ti := tiOf P ty, call := fun f => bif has ke f then look ke f else bif has ko f then look ko f else bif has kf f then look kf f else look kv f,
    pass := fun f => bif has ke f then .own else bif has ko f then .own else bif has kf f then .freeze else .view, ntmps := n, ann := ann, base := base, cut := cut, deep := deep, mv := mv, vw := vw
    es := has ke
    esD := fun f => bif has kd f then false else has ke f
    callD := fun f => bif has kd f then look kd f else bif has ke f then look ke f else bif has ko f then look ko f else bif has kf f then look kf f else look kv f
    passD := fun f => bif has kd f then .view else bif has ke f then .own else bif has ko f then .own else bif has kf f then .freeze else .view }

theorem mkC_calls {P : Program} {ty : TypeId → Ty} {kv kf ko : List (FuncId × Sm)} {n : Nat} {ann : Nat → Option Ann} {base : Nat} {cut : Bool} {kd : List (FuncId × Sm)} {deep mv vw : Bool} {ke : List (FuncId × Sm)} (h1 : Known P kv) (h2 : Known P kf) (h3 : KnownO P ko) (h4 : Known P kd) (h5 : KnownE P ke) : CallsOk0 P (mkC P ty kv kf ko n ann base cut kd deep mv vw ke) := by
  refine ⟨?_, ?_, ?_, ?_⟩
  · intro f
    simp only [mkC]
    cases e0 : has ke f with
    | true => simp only [cond_true]; exact (knownE_ok h5 f).1
    | false =>
    simp only [cond_false]
    cases e : has ko f with
    | true => simp only [cond_true]; exact knownO_ok h3 f
    | false =>
      simp only [cond_false]
      cases e2 : has kf f with
      | true => simp only [cond_true]; exact known_ok h2 f
      | false => simp only [cond_false]; exact known_ok h1 f
  · intro f
    simp only [mkC, Ctx.drawn]
    cases e0 : has kd f with
    | true => simp only [cond_true]; exact known_ok h4 f
    | false =>
    simp only [cond_false]
    cases e0 : has ke f with
    | true => simp only [cond_true]; exact (knownE_ok h5 f).1
    | false =>
    simp only [cond_false]
    cases e : has ko f with
    | true => simp only [cond_true]; exact knownO_ok h3 f
    | false =>
      simp only [cond_false]
      cases e2 : has kf f with
      | true => simp only [cond_true]; exact known_ok h2 f
      | false => simp only [cond_false]; exact known_ok h1 f
  · intro f _ he
    simp only [mkC] at he ⊢
    rw [he, cond_true]
    exact (knownE_ok h5 f).2
  · intro f _ he
    simp only [mkC, Ctx.drawn] at he ⊢
    cases e0 : has kd f with
    | true => rw [e0, cond_true] at he; cases he
    | false =>
      rw [e0, cond_false] at he
      rw [cond_false, he, cond_true]
      exact (knownE_ok h5 f).2

theorem fnOk_runC {P : Program} {C : Ctx} {ty : TypeId → Ty} {kv kf ko : List (FuncId × Sm)} {n : Nat} {ann : Nat → Option Ann} {cut : Bool} {kd : List (FuncId × Sm)} {deep mv vw : Bool} {ke : List (FuncId × Sm)} (hC : C = mkC P ty kv kf ko n ann 0 cut kd deep mv vw ke) (hm : P.follows .mixedOrders = true)
    (h1 : Known P kv) (h2 : Known P kf) (h3 : KnownO P ko) {k : FuncId} {fn : Func} (hf : P.funcs[k]? = some fn) (hn : (fn.name == "runtime.NumGoroutine") = false) (h4 : Known P kd := by exact .nil) (h5 : KnownE P ke := by exact .nil) : FnOk P k (wpFn C fn) := by
  subst hC
  exact fnOk_of_wpFn (lok_tiOf P ty _ rfl) (mkC_calls h1 h2 h3 h4 h5) hm hf hn

theorem fnOkO_runC {P : Program} {C : Ctx} {ty : TypeId → Ty} {kv kf ko : List (FuncId × Sm)} {n : Nat} {ann : Nat → Option Ann} {base : Nat} {cut : Bool} {kd : List (FuncId × Sm)} {deep mv vw : Bool} {ke : List (FuncId × Sm)} (hC : C = mkC P ty kv kf ko n ann base cut kd deep mv vw ke) (hm : P.follows .mixedOrders = true)
    (h1 : Known P kv) (h2 : Known P kf) (h3 : KnownO P ko) {k : FuncId} {fn : Func} (hf : P.funcs[k]? = some fn) (hn : (fn.name == "runtime.NumGoroutine") = false) (h4 : Known P kd := by exact .nil) (h5 : KnownE P ke := by exact .nil) : FnOkO P k (wpFnO C fn) := by
  subst hC
  exact fnOkO_of_wpFnO (lok_tiOf P ty _ rfl) (mkC_calls h1 h2 h3 h4 h5) hm hf hn

theorem immut_encA : ∀ (a : AT) (x : a.den), immut (encA a x) = true
  | .cell t, x => by
    simp only [encA]
    have := immuts_enc t x
    cases e : enc t x with
    | nil => rfl
    | cons u us => rw [e] at this; simp only [immuts, Bool.and_eq_true] at this; exact this.1
  | .agg t, x => by simp only [encA, immut]; exact immuts_enc t x
  | .fn f, x => rfl
  | .ref t, x => by simp only [encA, immut]; exact immuts_enc t x
  | .clo f t, x => by simp only [encA, immut, immuts, immuts_enc t x]; rfl
  | .refp t, x => by simp only [encA, immut, immuts, immuts_enc t x]; rfl
  | .nothing, x => rfl
theorem immuts_encAs : ∀ (l : List AT) (x : ADen l), immuts (encAs l x) = true
  | [], _ => rfl
  | a :: r, x => by simp only [encAs, immuts, immut_encA a x.1, immuts_encAs r x.2]; rfl

/-- A function that is given a box and writes it. -/
def semP (t : Ty) (l : List AT) (gd : t.den → ADen l → Bool) (f : t.den → ADen l → V × t.den) : Sm := fun args H K =>
  match args with
  | .ptr id off :: r =>
    match H[id]? with
    | some (.box cells) =>
      match dec t cells with
      | some (s, []) =>
        match decAs l r with
        | some x => bif Nat.beq off 0 && immut (f s x).1 then cond (gd s x) (K (f s x).1 (H.set id (.box (enc t (f s x).2)))) False else False
        | none => False
      | _ => False
    | _ => False
  | _ => False

/-- A function that makes a box. -/
def semN (t : Ty) (l : List AT) (f : ADen l → t.den) : Sm := fun args H K =>
  match decAs l args with
  | some x => K (.ptr H.length 0) (H ++ [.box (enc t (f x))])
  | none => False

theorem own_one {cells : List V} {b b' : Nat} (h : Own [.box cells] [.box b] b') : b' = b := by
  obtain ⟨id, o, x, h1, h2, h3⟩ := h
  cases id with
  | zero => cases h1; cases h2; simp only [ownB] at h3; exact h3.symm
  | succ n => cases h1

theorem fnOkO_box0 {P : Program} {k : FuncId} {S : Sm} (hS : FnOkO P k S) {t : Ty} {l : List AT} {gd : t.den → ADen l → Bool} {f : t.den → ADen l → V × t.den}
    (h : ∀ (s : t.den) (x : ADen l), Wf t s → WfAs l x → gd s x = true → ∀ (K : V → Heap → Prop), K (f s x).1 [.box (enc t (f s x).2)] → S (.ptr 0 0 :: encAs l x) [.box (enc t s)] K) : FnOkO P k (semP t l gd f) := by
  intro args H K hk
  simp only [semP] at hk
  split at hk
  · rename_i id off r
    split at hk
    · rename_i cells hid
      split at hk
      · rename_i s hd
        split at hk
        · rename_i x hx
          cases hi : (Nat.beq off 0 && immut (f s x).1) with
          | false => simp only [hi, cond_false] at hk
          | true =>
            simp only [hi, cond_true] at hk
            cases hgd : gd s x with
            | false => simp only [hgd, cond_false] at hk
            | true =>
            simp only [hgd, cond_true] at hk
            refine ⟨_, _, hk, fun K' h' => by simp only [semP, hid, hd, hx, hi, hgd, cond_true]; exact h', ?_⟩
            simp only [Bool.and_eq_true] at hi
            have hoff := beq_true hi.1
            subst hoff
            intro w g M cargs hv hr hG
            cases hv with
            | cons hp hrest =>
            cases hp with
            | ptr _ _ b hb =>
            have hob := hr.ob id _ _ hid hb
            simp only [ObOk] at hob
            obtain ⟨c, T, fz, k1, k2, k3, k4⟩ := hob
            obtain ⟨d1, d2⟩ := dec_sound t hd k2
            have hcl : c.toList.length = t.size := by
              have := d2.length
              have := d1.length
              rw [enc_length] at this
              simp at *
              omega
            have d1' : VRs g M (enc t s) c.toList := by rwa [List.take_of_length_le (by omega)] at d1
            have hws : Wf t s := wf_of_VRs t s d1'
            have hwx : WfAs l x := wfAs_of hx hrest
            obtain ⟨v, H1, h1, h2, h3⟩ := hS (.ptr 0 0 :: encAs l x) [.box (enc t s)] (fun v hs => v = (f s x).1 ∧ hs = [.box (enc t (f s x).2)]) (h s x hws hwx hgd _ ⟨rfl, rfl⟩)
            obtain ⟨rfl, rfl⟩ := h1
            have hr1 : HR [.box (enc t s)] [.box b] M w := by
              refine ⟨rfl, ?_, ?_, hr.mem⟩
              · intro j o y p1 p2
                cases j with
                | zero =>
                  cases p1; cases p2
                  exact ⟨c, T, fz, k1, d1'.imm (immuts_enc t s), k3, k4⟩
                | succ j => cases p1
              · intro j j' o o' y y' bb p1 p2 p3 p4 _ _
                cases j with
                | zero => cases j' with
                  | zero => rfl
                  | succ j' => cases p3
                | succ j => cases p1
            refine (h3 w [.box b] M _ (.cons (.ptr 0 0 b rfl) ((decAs_sound hx hrest).imm (immuts_encAs l x))) hr1 hG).mono ?_
            rintro val w' ⟨g', M', q1, q2, q3, q4⟩
            have hg' : g' = [.box b] := by
              obtain ⟨x', e1, e2⟩ := q3.g 0 _ rfl
              have hl := q2.len
              cases x' with
              | sl _ _ _ => simp only [Gle] at e2
              | bld _ _ => simp only [Gle] at e2
              | dp _ _ _ _ _ _ => simp only [Gle] at e2
              | box b' =>
                simp only [Gle] at e2
                subst e2
                match g', e1, hl with
                | [y], e1, _ => cases e1; rfl
            subst hg'
            have hE : Ext g M g M' := Ext.mem q3.m
            have hmn : ∀ b', M' b' ≠ none → M b' ≠ none ∨ b' = b ∨ w.heap.size ≤ b' := by
              intro b' hn
              cases e : M' b' with
              | none => exact absurd e hn
              | some cs =>
                rcases q4.mnew b' cs e with k | k | k
                · exact .inl (by rw [k]; exact fun e => by cases e)
                · exact .inr (.inl (own_one k))
                · exact .inr (.inr k)
            have hother : ∀ (j : Nat) (o : Ob) (y : G) (b' : Nat), j ≠ id → H[j]? = some o → g[j]? = some y → ownB o y b' → w'.heap[b']? = w.heap[b']? ∧ M' b' = none := by
              intro j o y b' hne p1 p2 p3
              have hlt := Ev.own_lt (hr.ob j o y p1 p2) p3
              have hbb : b' ≠ b := by
                intro e
                subst e
                exact hne (hr.apart j id o _ y _ b' p1 p2 hid hb p3 rfl)
              refine ⟨q4.keep b' hlt.1 fun ho => hbb (own_one ho), ?_⟩
              cases e : M' b' with
              | none => rfl
              | some cs =>
                rcases hmn b' (by rw [e]; exact fun e => by cases e) with k | k | k
                · exact absurd hlt.2 k
                · exact absurd k hbb
                · omega
            have hidl : id < H.length := lt_of_get hid
            have key : ∀ (j : Nat) (y : Ob), (H.set id (.box (enc t (f s x).2)))[j]? = some y → (j = id ∧ y = .box (enc t (f s x).2)) ∨ (j ≠ id ∧ H[j]? = some y) := by
              intro j y hj
              by_cases e : id = j
              · subst e
                simp [List.getElem?_set, hidl] at hj
                exact .inl ⟨rfl, hj.symm⟩
              · simp [List.getElem?_set, e] at hj
                exact .inr ⟨fun e' => e e'.symm, hj⟩
            have hob1 := q2.ob 0 _ _ rfl rfl
            simp only [ObOk] at hob1
            obtain ⟨c', T', fz', m1, m2, m3, m4⟩ := hob1
            refine ⟨g, M', q1.imm hi.2, ⟨by simp [hr.len], ?_, ?_, q2.mem⟩, hE, ⟨q4.size, ?_, ?_, q4.mle, ?_, q4.os, q4.tape, q4.output, fun _ _ h => h.1⟩⟩
            · intro j o y p1 p2
              rcases key j o p1 with ⟨rfl, rfl⟩ | ⟨hne, p3⟩
              · rw [hb] at p2; cases p2
                exact ⟨c', T', fz', m1, m2.imm (immuts_enc t _), m3, m4⟩
              · exact (hr.ob j o y p3 p2).frame hE fun b' hb' => hother j o y b' hne p3 p2 hb'
            · intro j j' o o' y y' bb p1 p2 p3 p4 p5 p6
              rcases key j o p1 with ⟨rfl, rfl⟩ | ⟨hne, r1⟩ <;> rcases key j' o' p3 with ⟨rfl, rfl⟩ | ⟨hne', r2⟩
              · rfl
              · exact hr.apart _ _ _ _ _ _ bb hid p2 r2 p4 (by cases y <;> simp [ownB] at p5 ⊢; exact p5) p6
              · exact hr.apart _ _ _ _ _ _ bb r1 p2 hid p4 p5 (by cases y' <;> simp [ownB] at p6 ⊢; exact p6)
              · exact hr.apart _ _ _ _ _ _ bb r1 p2 r2 p4 p5 p6
            · intro b' hb1 hb2
              refine q4.keep b' hb1 fun ho => hb2 ?_
              rw [own_one ho]
              exact ⟨id, _, _, hid, hb, rfl⟩
            · rintro b' ⟨j, o, y, p1, p2, p3⟩
              rcases key j o p1 with ⟨rfl, rfl⟩ | ⟨hne, r1⟩
              · rw [hb] at p2; cases p2
                simp only [ownB] at p3
                subst p3
                exact .inl ⟨j, _, _, hid, hb, rfl⟩
              · exact .inl ⟨j, o, y, r1, p2, p3⟩
            · intro b' cs hm'
              rcases q4.mnew b' cs hm' with k | k | k
              · exact .inl k
              · exact .inr (.inl (by rw [own_one k]; exact ⟨id, _, _, hid, hb, rfl⟩))
              · exact .inr (.inr k)
        · exact hk.elim
      · exact hk.elim
    · exact hk.elim
  · exact hk.elim

theorem fnOkO_new0 {P : Program} {k : FuncId} {S : Sm} (hS : FnOkO P k S) {t : Ty} {l : List AT} {f : ADen l → t.den}
    (h : ∀ (x : ADen l), WfAs l x → ∀ (K : V → Heap → Prop), K (.ptr 0 0) [.box (enc t (f x))] → S (encAs l x) [] K) : FnOkO P k (semN t l f) := by
  intro args H K hk
  simp only [semN] at hk
  split at hk
  · rename_i x hx
    refine ⟨_, _, hk, fun K' h' => by simp only [semN, hx]; exact h', ?_⟩
    intro w g M cargs hv hr hG
    have hwx : WfAs l x := wfAs_of hx hv
    obtain ⟨v, H1, h1, h2, h3⟩ := hS (encAs l x) [] (fun v hs => v = .ptr 0 0 ∧ hs = [.box (enc t (f x))]) (h x hwx _ ⟨rfl, rfl⟩)
    obtain ⟨rfl, rfl⟩ := h1
    have hr1 : HR [] [] M w := ⟨rfl, (by intro j o y p1; cases p1), (by intro j j' o o' y y' b p1; cases p1), hr.mem⟩
    refine (h3 w [] M _ ((decAs_sound hx hv).imm (immuts_encAs l x)) hr1 hG).mono ?_
    rintro val w' ⟨g', M', q1, q2, q3, q4⟩
    have hno : ∀ b, ¬ Own ([] : Heap) ([] : List G) b := by rintro b ⟨j, o, y, p1, _⟩; cases p1
    obtain ⟨b, rfl⟩ : ∃ b, g' = [.box b] := by
      have hl := q2.len
      match g', hl with
      | [y], _ =>
        have := q2.ob 0 _ y rfl rfl
        cases y with
        | box b => exact ⟨b, rfl⟩
        | sl _ _ _ => exact this.elim
        | bld _ _ => exact this.elim
        | dp _ _ _ _ _ _ => exact this.elim
    cases q1 with
    | ptr _ _ b' e =>
    cases e
    have hob1 := q2.ob 0 _ _ rfl rfl
    simp only [ObOk] at hob1
    obtain ⟨c', T', fz', m1, m2, m3, m4⟩ := hob1
    have hnew : w.heap.size ≤ b := by
      rcases q4.own b ⟨0, _, _, rfl, rfl, rfl⟩ with k | k
      · exact absurd k (hno b)
      · exact k
    have hE : Ext g M (g ++ [.box b]) M' := (Ext.snoc g M (.box b)).trans (Ext.mem q3.m)
    have hold : ∀ (j : Nat) (o : Ob) (y : G) (b' : Nat), H[j]? = some o → g[j]? = some y → ownB o y b' → b' < w.heap.size ∧ w'.heap[b']? = w.heap[b']? ∧ M' b' = none := by
      intro j o y b' p1 p2 p3
      have hlt := Ev.own_lt (hr.ob j o y p1 p2) p3
      refine ⟨hlt.1, q4.keep b' hlt.1 (hno b'), ?_⟩
      cases e : M' b' with
      | none => rfl
      | some cs =>
        rcases q4.mnew b' cs e with k | k | k
        · rw [hlt.2] at k; cases k
        · exact absurd k (hno b')
        · omega
    have keyH : ∀ (j : Nat) (o : Ob) (y : G), (H ++ [.box (enc t (f x))])[j]? = some o → (g ++ [.box b])[j]? = some y → (j = H.length ∧ o = .box (enc t (f x)) ∧ y = .box b) ∨ (j < H.length ∧ H[j]? = some o ∧ g[j]? = some y) := by
      intro j o y p1 p2
      rw [getElem?_snoc] at p1 p2
      rw [← hr.len] at p2
      split at p1
      · rename_i hl; rw [if_pos hl] at p2; exact .inr ⟨hl, p1, p2⟩
      · rename_i hl
        rw [if_neg hl] at p2
        split at p1
        · rename_i he; rw [if_pos he] at p2; cases p1; cases p2; exact .inl ⟨he, rfl, rfl⟩
        · cases p1
    refine ⟨g ++ [.box b], M', .ptr _ 0 b (by rw [hr.len, List.getElem?_append_right (Nat.le_refl _)]; simp), ⟨by simp [hr.len], ?_, ?_, q2.mem⟩, hE, ⟨q4.size, fun b' hb1 _ => q4.keep b' hb1 (hno b'), ?_, q4.mle, ?_, q4.os, q4.tape, q4.output, fun _ _ h => by rw [List.getElem?_append_left (lt_of_get h.1)]; exact h.1⟩⟩
    · intro j o y p1 p2
      rcases keyH j o y p1 p2 with ⟨rfl, rfl, rfl⟩ | ⟨hl, p3, p4⟩
      · exact ⟨c', T', fz', m1, m2.imm (immuts_enc t _), m3, m4⟩
      · exact (hr.ob j o y p3 p4).frame hE fun b' hb' => (hold j o y b' p3 p4 hb').2
    · intro j j' o o' y y' bb p1 p2 p3 p4 p5 p6
      rcases keyH j o y p1 p2 with ⟨rfl, rfl, rfl⟩ | ⟨hl, r1, r2⟩ <;> rcases keyH j' o' y' p3 p4 with ⟨rfl, rfl, rfl⟩ | ⟨hl', r3, r4⟩
      · rfl
      · simp only [ownB] at p5
        subst p5
        have := (hold j' o' y' _ r3 r4 p6).1
        omega
      · simp only [ownB] at p6
        subst p6
        have := (hold j o y _ r1 r2 p5).1
        omega
      · exact hr.apart _ _ _ _ _ _ bb r1 r2 r3 r4 p5 p6
    · rintro b' ⟨j, o, y, p1, p2, p3⟩
      rcases keyH j o y p1 p2 with ⟨rfl, rfl, rfl⟩ | ⟨hl, r1, r2⟩
      · simp only [ownB] at p3
        subst p3
        exact .inr hnew
      · exact .inl ⟨j, o, y, r1, r2, p3⟩
    · intro b' cs hm'
      rcases q4.mnew b' cs hm' with k | k | k
      · exact .inl k
      · exact absurd k (hno b')
      · exact .inr (.inr k)
  · exact hk.elim

theorem semP_local (t : Ty) (l : List AT) (gd : t.den → ADen l → Bool) (f : t.den → ADen l → V × t.den) : LocalS (semP t l gd f) := by
  intro v r H K h
  cases v <;> simp only [semP] at h ⊢
  rename_i id off
  split at h
  · rename_i cells hid
    split at h
    · rename_i s hd
      split at h
      · rename_i x hx
        cases hi : (Nat.beq off 0 && immut (f s x).1) with
        | false => simp only [hi, cond_false] at h
        | true =>
          cases hg : gd s x with
          | false => simp only [hi, hg, cond_true, cond_false] at h
          | true =>
            simp only [hi, hg, cond_true] at h
            simp only [hid, hd, hx, hi, hg, cond_true]
            exact ⟨h, .ptr (.set _ _ _)⟩
      · exact h.elim
    · exact h.elim
  · exact h.elim
theorem semP_localE (t : Ty) (l : List AT) (gd : t.den → ADen l → Bool) (f : t.den → ADen l → V × t.den) : LocalE (semP t l gd f) := by
  intro v r H K tt ht h
  cases v <;> simp only [semP] at h ⊢
  rename_i id off
  have ht : tt = some id := by
    unfold touchL at ht
    cases hi : immuts r with
    | false => simp only [hi, cond_false] at ht; cases ht
    | true => simp only [hi, cond_true, cond_false] at ht; cases ht; rfl
  subst ht
  split at h
  · rename_i cells hid
    split at h
    · rename_i s hd
      split at h
      · rename_i x hx
        cases hi : (Nat.beq off 0 && immut (f s x).1) with
        | false => simp only [hi, cond_false] at h
        | true =>
          cases hg : gd s x with
          | false => simp only [hi, hg, cond_true, cond_false] at h
          | true =>
            simp only [hi, hg, cond_true] at h
            simp only [hid, hd, hx, hi, hg, cond_true]
            exact ⟨h, .set _ _ _⟩
      · exact h.elim
    · exact h.elim
  · exact h.elim
theorem semN_local (t : Ty) (l : List AT) (f : ADen l → t.den) : LocalS (semN t l f) := by
  intro v r H K h
  unfold semN at h ⊢
  split at h
  · rename_i x hx
    exact ⟨h, .of fun _ => .app _ _ _⟩
  · exact h.elim

theorem fnOkO_box {P : Program} {k : FuncId} {S : Sm} (hS : FnOkO P k S) {t : Ty} {l : List AT} {gd : t.den → ADen l → Bool} {f : t.den → ADen l → V × t.den}
    (h : ∀ (s : t.den) (x : ADen l), Wf t s → WfAs l x → gd s x = true → ∀ (K : V → Heap → Prop), K (f s x).1 [.box (enc t (f s x).2)] → S (.ptr 0 0 :: encAs l x) [.box (enc t s)] K) : FnOkL P k (semP t l gd f) := ⟨fnOkO_box0 hS h, semP_local _ _ _ _⟩
theorem fnOkO_new {P : Program} {k : FuncId} {S : Sm} (hS : FnOkO P k S) {t : Ty} {l : List AT} {f : ADen l → t.den}
    (h : ∀ (x : ADen l), WfAs l x → ∀ (K : V → Heap → Prop), K (.ptr 0 0) [.box (enc t (f x))] → S (encAs l x) [] K) : FnOkL P k (semN t l f) := ⟨fnOkO_new0 hS h, semN_local _ _ _⟩
end Go.Ev
