/- How a function's equation becomes a fact that its callers may use. -/
import Derived.Test.YthcpcfgjalpnkaaEvFn
set_option linter.unusedVariables false
set_option linter.unusedSimpArgs false
namespace Go.Ev

abbrev Sm := List V → Heap → (V → Heap → Prop) → Prop

def look : List (FuncId × Sm) → FuncId → Sm
  | [], _ => fun _ _ _ => False
  | (k, S) :: r, f => bif Nat.beq f k then S else look r f

theorem fnOk_none (P : Program) (k : FuncId) : FnOk P k (fun _ _ _ => False) := fun _ _ h => h.elim

/-- The callees that a function may use, each with its proof. -/
inductive Known (P : Program) : List (FuncId × Sm) → Prop
  | nil : Known P []
  | cons {k : FuncId} {S : Sm} {r : List (FuncId × Sm)} : FnOk P k S → Known P r → Known P ((k, S) :: r)

theorem known_ok {P : Program} : ∀ {l : List (FuncId × Sm)}, Known P l → ∀ f, FnOk P f (look l f)
  | _, .nil, f => fnOk_none P f
  | _, .cons (k := k) (S := S) (r := r) h t, f => by
    show FnOk P f (bif Nat.beq f k then S else look r f)
    cases e : Nat.beq f k with
    | true => rw [beq_true e]; exact h
    | false => exact known_ok t f

def mkCtx (P : Program) (ty : TypeId → Ty) (l : List (FuncId × Sm)) (n : Nat) (ann : Nat → Option Ann) : Ctx :=
  { ti := tiOf P ty, call := look l, pass := fun _ => .view, ntmps := n, ann := ann }

/-! ### arguments by their types -/
inductive AT where
  | cell (t : Ty)
  | agg (t : Ty)
  | fn (f : FuncId)

@[reducible] def AT.den : AT → Type
  | .cell t => t.den
  | .agg t => t.den
  | .fn _ => Unit

def decA : (a : AT) → V → Option a.den
  | .cell t, v => bif Nat.beq t.size 1 then (match dec t [v] with
    | some (x, []) => some x
    | _ => none) else none
  | .agg t, .agg vs => match dec t vs with
    | some (x, []) => some x
    | _ => none
  | .fn f, .fn g [] => bif Nat.beq f g then some () else none
  | _, _ => none

def encA : (a : AT) → a.den → V
  | .cell t, x => (enc t x).headD .undef
  | .agg t, x => .agg (enc t x)
  | .fn f, _ => .fn f []

theorem decA_sound {M : Mem} {a : AT} {v : V} {x : a.den} (h : decA a v = some x) {c : Value} (hv : VR [] M v c) : VR [] M (encA a x) c := by
  cases a with
  | cell t =>
    simp only [decA] at h
    cases hts : Nat.beq t.size 1 with
    | false => simp only [hts, cond_false] at h; cases h
    | true =>
    simp only [hts, cond_true] at h
    split at h
    · rename_i y hd
      cases h
      obtain ⟨h1, h2⟩ := dec_sound t hd (cs := [c]) (.cons hv .nil)
      have hl := h1.length
      have hl2 := h2.length
      simp only [encA]
      cases e : enc t x with
      | nil => exact .undef _
      | cons u us =>
        rw [e] at h1
        have hts : t.size ≠ 0 := by
          intro e0
          rw [← enc_length t x, e] at e0
          simp at e0
        rw [List.take_of_length_le (by simp; omega)] at h1
        cases h1 with
        | cons p q => exact p
    · cases h
  | agg t =>
    cases v <;> simp only [decA] at h <;> try (cases h; done)
    split at h
    · rename_i y hd
      cases h
      cases hv with
      | agg _ cs hvs =>
        obtain ⟨h1, h2⟩ := dec_sound t hd hvs
        have hl2 := h2.length
        simp only [encA]
        refine .agg _ cs ?_
        rw [List.take_of_length_le (by simp at hl2 ⊢; omega)] at h1
        exact h1
    · cases h
  | fn f =>
    cases v <;> simp only [decA] at h <;> try (cases h; done)
    rename_i g vs
    cases vs with
    | nil =>
      simp only [decA] at h
      cases e : Nat.beq f g with
      | true => rw [← beq_true e] at hv; exact hv
      | false => rw [e] at h; cases h
    | cons _ _ => simp only [decA] at h; cases h

@[reducible] def ADen : List AT → Type
  | [] => Unit
  | a :: r => a.den × ADen r

def decAs : (l : List AT) → List V → Option (ADen l)
  | [], [] => some ()
  | a :: r, v :: vs => match decA a v with
    | some x => match decAs r vs with
      | some y => some (x, y)
      | none => none
    | none => none
  | _, _ => none

def encAs : (l : List AT) → ADen l → List V
  | [], _ => []
  | a :: r, x => encA a x.1 :: encAs r x.2

theorem decAs_sound {M : Mem} : ∀ {l : List AT} {vs : List V} {x : ADen l}, decAs l vs = some x → ∀ {cs : List Value}, VRs [] M vs cs → VRs [] M (encAs l x) cs
  | [], [], x, h, cs, hv => by cases hv; exact .nil
  | [], _ :: _, x, h, cs, hv => by simp only [decAs] at h; cases h
  | _ :: _, [], x, h, cs, hv => by simp only [decAs] at h; cases h
  | a :: r, v :: vs, x, h, cs, hv => by
    simp only [decAs] at h
    split at h
    · rename_i y h1
      split at h
      · rename_i z h2
        cases h
        cases hv with
        | cons p q => exact .cons (decA_sound h1 p) (decAs_sound h2 q)
      · cases h
    · cases h

/-- What is known of a plain value that a function is given. -/
def Wf : (t : Ty) → t.den → Prop
  | .int k, n => k.min ≤ n ∧ n ≤ k.max
  | .float k, b => b < 2 * signOf k ∧ canon k b = b
  | .bool, _ => True
  | .str, s => s.length ≤ maxLen
  | .slice t, xs => xs.length ≤ maxLen ∧ ∀ x ∈ xs, Wf t x
  | .pair a b, x => Wf a x.1 ∧ Wf b x.2
  | .unit, _ => True

theorem wf_of_VRs {g : List G} {M : Mem} : ∀ (t : Ty) (x : t.den) {cs : List Value}, VRs g M (enc t x) cs → Wf t x := by
  intro t
  induction t with
  | int k => intro x cs h; cases h with | cons a b => cases a with | int _ _ h => exact h
  | float k => intro x cs h; cases h with | cons a b => cases a with | float _ _ b' h1 h2 => subst h2; exact ⟨canon_lt h1, canon_canon k b'⟩
  | bool => intro x cs h; trivial
  | str => intro x cs h; cases h with | cons a b => cases a with | str _ _ h1 h2 => exact h2
  | slice t ih =>
    intro xs cs h
    cases h with
    | cons a b =>
      cases a with
      | vecnil => exact ⟨Nat.zero_le _, by simp⟩
      | vec _ _ b off n cap cs p1 p2 p3 p4 =>
        refine ⟨by rw [← p2.1]; exact p2.2, fun x hx => ?_⟩
        obtain ⟨i, hi⟩ := List.mem_iff_getElem?.1 hx
        exact ih x (p4 i x hi)
  | pair a b iha ihb =>
    intro x cs h
    simp only [enc] at h
    obtain ⟨h1, h2⟩ := h.split
    exact ⟨iha x.1 h1, ihb x.2 h2⟩
  | unit => intro x cs h; trivial

def WfA : (a : AT) → a.den → Prop
  | .cell t, x => Wf t x
  | .agg t, x => Wf t x
  | .fn _, _ => True

def WfAs : (l : List AT) → ADen l → Prop
  | [], _ => True
  | a :: r, x => WfA a x.1 ∧ WfAs r x.2

/-- A function of typed arguments. -/
def semT (l : List AT) (f : ADen l → V) : Sm := fun args hs K =>
  match decAs l args with
  | some x => K (f x) hs
  | none => False

theorem wfA_of {M : Mem} {a : AT} {v : V} {x : a.den} (h : decA a v = some x) {c : Value} (hv : VR [] M v c) : WfA a x := by
  cases a with
  | cell t =>
    simp only [decA] at h
    cases hts : Nat.beq t.size 1 with
    | false => simp only [hts, cond_false] at h; cases h
    | true =>
    simp only [hts, cond_true] at h
    split at h
    · rename_i y hd
      cases h
      exact wf_of_VRs t x (dec_sound t hd (cs := [c]) (.cons hv .nil)).1
    · cases h
  | agg t =>
    cases v <;> simp only [decA] at h <;> try (cases h; done)
    split at h
    · rename_i y hd
      cases h
      cases hv with
      | agg _ cs hvs => exact wf_of_VRs t x (dec_sound t hd hvs).1
    · cases h
  | fn f => trivial

theorem wfAs_of {M : Mem} : ∀ {l : List AT} {vs : List V} {x : ADen l}, decAs l vs = some x → ∀ {cs : List Value}, VRs [] M vs cs → WfAs l x
  | [], [], x, h, cs, hv => trivial
  | [], _ :: _, x, h, cs, hv => by simp only [decAs] at h; cases h
  | _ :: _, [], x, h, cs, hv => by simp only [decAs] at h; cases h
  | a :: r, v :: vs, x, h, cs, hv => by
    simp only [decAs] at h
    split at h
    · rename_i y h1
      split at h
      · rename_i z h2
        cases h
        cases hv with
        | cons p q => exact ⟨wfA_of h1 p, wfAs_of h2 q⟩
      · cases h
    · cases h

theorem fnOk_typed {P : Program} {k : FuncId} {S : Sm} (hS : FnOk P k S) {l : List AT} {f : ADen l → V} (h : ∀ (x : ADen l), WfAs l x → ∀ (K : V → Heap → Prop), K (f x) [] → S (encAs l x) [] K) : FnOk P k (semT l f) := by
  intro args K hk
  simp only [semT] at hk
  split at hk
  · rename_i x hd
    refine ⟨f x, hk, fun K' h' => ?_, ?_⟩
    · simp only [semT, hd]; exact h'
    · intro w M cargs hv hm
      obtain ⟨v, h1, h2, h3⟩ := hS (encAs l x) (fun v hs => v = f x ∧ hs = []) (h x (wfAs_of hd hv) _ ⟨rfl, rfl⟩)
      obtain ⟨rfl, _⟩ := h1
      exact h3 w M cargs (decAs_sound hd hv) hm
  · exact hk.elim

theorem fnOk_run {P : Program} {C : Ctx} {ty : TypeId → Ty} {kn : List (FuncId × Sm)} {n : Nat} {ann : Nat → Option Ann} (hC : C = mkCtx P ty kn n ann) (hm : P.follows .mixedOrders = true) (hkn : Known P kn)
    {k : FuncId} {fn : Func} (hf : P.funcs[k]? = some fn) (hn : (fn.name == "runtime.NumGoroutine") = false) : FnOk P k (wpFn C fn) := by
  subst hC
  exact fnOk_of_wpFn (C := mkCtx P ty kn n ann) (lok_tiOf P ty _ rfl) (fun f => known_ok hkn f) hm hf hn

end Go.Ev
