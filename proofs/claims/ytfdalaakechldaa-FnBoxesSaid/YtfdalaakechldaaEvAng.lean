/- The evaluator picks one outcome: where it says yes of a wish, it says yes of just that outcome. -/
import Derived.Test.YtfdalaakechldaaEvDef
set_option linter.unusedVariables false
set_option linter.unusedSimpArgs false
namespace Go.Ev

def Ang1 {α : Type} (T : (α → Prop) → Prop) : Prop := ∀ K, T K → ∃ a, K a ∧ ∀ K' : α → Prop, K' a → T K'
def Ang2 {α β : Type} (T : (α → β → Prop) → Prop) : Prop := ∀ K, T K → ∃ a b, K a b ∧ ∀ K' : α → β → Prop, K' a b → T K'
def Ang3 {α β γ : Type} (T : (α → β → γ → Prop) → Prop) : Prop := ∀ K, T K → ∃ a b c, K a b c ∧ ∀ K' : α → β → γ → Prop, K' a b c → T K'

theorem view3K_eq (H : Heap) (v : V) (K : V → Prop) : view3K H v K = (match view3 H v with | some v' => K v' | none => False) := by
  cases v <;> try rfl
  rename_i id ver i off
  simp only [view3K, view3, view2]
  cases H[id]? with
  | none => rfl
  | some o =>
    cases o <;> try rfl
    · rename_i ver' t xs
      simp only
      cases Nat.beq ver ver' with
      | false => rfl
      | true =>
        simp only [cond_true]
        cases xs[i]? <;> rfl
    · rename_i ver' t xs
      simp only
      cases Nat.beq ver ver' with
      | false => rfl
      | true =>
        simp only [cond_true]
        cases xs[i]? <;> rfl
theorem views3K_eq (H : Heap) : ∀ (vs : List V) (K : List V → Prop), views3K H vs K = (match views3 H vs with | some vs' => K vs' | none => False)
  | [], K => rfl
  | v :: vs, K => by
    simp only [views3K, views3, view3K_eq]
    cases view3 H v with
    | none => rfl
    | some v' =>
      simp only [views3K_eq H vs]
      cases views3 H vs <;> rfl

theorem ang1_pure {α : Type} (a : α) : Ang1 (fun K => K a) := fun _ h => ⟨a, h, fun _ h => h⟩
theorem ang1_false {α : Type} : Ang1 (fun (_ : α → Prop) => False) := fun _ h => h.elim
theorem ang1_cond {α : Type} (b : Bool) {S T : (α → Prop) → Prop} (hs : Ang1 S) (ht : Ang1 T) : Ang1 (fun K => cond b (S K) (T K)) := by
  cases b
  · exact ht
  · exact hs
theorem ang1_ite {α : Type} (c : Prop) [Decidable c] {S T : (α → Prop) → Prop} (hs : Ang1 S) (ht : Ang1 T) : Ang1 (fun K => if c then S K else T K) := by
  by_cases h : c
  · simp only [h, if_true]; exact hs
  · simp only [h, if_false]; exact ht

section
variable {C : Ctx}
theorem binInt_ang (op : BinOp) (k : IntKind) (a b : Int) : Ang1 (fun K => binInt op k a b K) := by
  cases op <;> simp only [binInt] <;> first | exact ang1_pure _ | exact ang1_false | exact ang1_cond _ ang1_false (ang1_pure _)
theorem binFloat_ang (op : BinOp) (k : FloatKind) (a b : Nat) : Ang1 (fun K => binFloat op k a b K) := by
  cases op <;> simp only [binFloat] <;> first | exact ang1_pure _ | exact ang1_false
theorem binStr_ang (op : BinOp) (a b : List UInt8) : Ang1 (fun K => binStr op a b K) := by
  cases op <;> simp only [binStr] <;> first | exact ang1_pure _ | exact ang1_false | exact ang1_cond _ (ang1_pure _) ang1_false
theorem shiftOp_ang (op : BinOp) (k : IntKind) (a b : Int) : Ang1 (fun K => shiftOp op k a b K) := by
  cases op <;> simp only [shiftOp] <;> first | exact ang1_pure _ | exact ang1_false | exact ang1_cond _ ang1_false (ang1_pure _)
theorem binV_ang (op : BinOp) (t : TypeId) (x y : V) : Ang1 (fun K => binV C op t x y K) := by
  unfold binV
  repeat' first | exact ang1_false | exact ang1_pure _ | exact shiftOp_ang _ _ _ _ | exact binInt_ang _ _ _ _ | exact binFloat_ang _ _ _ _ | exact binStr_ang _ _ _ | refine ang1_cond _ ?_ ?_ | refine ang1_ite _ ?_ ?_ | split
theorem unV_ang (op : UnOp) (x : V) : Ang1 (fun K => unV op x K) := by
  cases op <;> simp only [unV] <;> cases x <;> (try simp only) <;> first | exact ang1_pure _ | exact ang1_false
theorem convV_ang (s d : TypeId) (x : V) : Ang1 (fun K => convV C s d x K) := by
  unfold convV
  refine ang1_cond _ ang1_false ?_
  cases x <;> simp only <;> try exact ang1_false
  · split
    · exact ang1_pure _
    · exact ang1_pure _
    · exact ang1_false
  · split
    · split
      · exact ang1_pure _
      · exact ang1_pure _
    · split
      · exact ang1_pure _
      · exact ang1_pure _
    · split
      · exact ang1_pure _
      · exact ang1_cond _ (ang1_pure _) (ang1_pure _)
    · exact ang1_false
  · split
    · split
      · exact ang1_pure _
      · exact ang1_false
    · exact ang1_false
theorem readV_ang (i : TI) (cs : List V) : Ang1 (fun K => readV i cs K) := by
  unfold readV
  refine ang1_cond _ (ang1_cond _ (ang1_pure _) ang1_false) (ang1_cond _ ang1_false ?_)
  cases cs
  · exact ang1_false
  · exact ang1_pure _
theorem ang1_opt {α β : Type} (o : Option β) {S : β → (α → Prop) → Prop} (h : ∀ x, Ang1 (S x)) : Ang1 (fun K => match (generalizing := false) o with | some x => S x K | none => False) := by
  cases o
  · exact ang1_false
  · exact h _
theorem loadV_ang (t : TypeId) (x : V) (H : Heap) : Ang1 (fun K => loadV C t x H K) := by
  unfold loadV
  repeat' first | exact ang1_false | exact ang1_pure _ | exact readV_ang _ _ | refine ang1_cond _ ?_ ?_ | refine ang1_ite _ ?_ ?_ | split
theorem storeV_ang (t : TypeId) (x v : V) (H : Heap) : Ang1 (fun K => storeV C t x v H K) := by
  unfold storeV
  repeat' first | exact ang1_false | exact ang1_pure _ | refine ang1_cond _ ?_ ?_ | refine ang1_ite _ ?_ ?_ | split
theorem fieldAddrV_ang (s : TypeId) (x : V) (f : Nat) : Ang1 (fun K => fieldAddrV C s x f K) := by
  unfold fieldAddrV
  split
  · split
    · refine ang1_cond _ ang1_false ?_
      cases x <;> simp only <;> first | exact ang1_false | exact ang1_pure _
    · exact ang1_false
  · exact ang1_false
theorem fieldV_ang (s : TypeId) (x : V) (f : Nat) : Ang1 (fun K => fieldV C s x f K) := by
  unfold fieldV
  split
  · split
    · cases x <;> simp only <;> first | exact ang1_false | exact readV_ang _ _
    · exact ang1_false
  · exact ang1_false
theorem indexAddrV_ang (t : TypeId) (x ix : V) (H : Heap) : Ang1 (fun K => indexAddrV C t x ix H K) := by
  unfold indexAddrV
  repeat' first | exact ang1_false | exact ang1_pure _ | refine ang1_cond _ ?_ ?_ | refine ang1_ite _ ?_ ?_ | split
theorem indexV_ang (t : TypeId) (x ix : V) : Ang1 (fun K => indexV C t x ix K) := by
  unfold indexV
  cases ix <;> simp only <;> try exact ang1_false
  split
  · cases x <;> simp only <;> try exact ang1_false
    exact ang1_cond _ (by split <;> first | exact ang1_pure _ | exact ang1_false) ang1_false
  · cases x <;> simp only <;> try exact ang1_false
    exact ang1_cond _ ang1_false (ang1_cond _ (readV_ang _ _) ang1_false)
  · exact ang1_false
theorem buildV_ang (t : TypeId) (ps : List (Nat × V)) : Ang1 (fun K => buildV C t ps K) := by
  unfold buildV
  split
  · exact ang1_cond _ ang1_false (by split <;> first | exact ang1_pure _ | exact ang1_false)
  · exact ang1_cond _ ang1_false (by split <;> first | exact ang1_pure _ | exact ang1_false)
  · exact ang1_false
theorem lenV_ang (x : V) (H : Heap) : Ang1 (fun K => lenV x H K) := by
  unfold lenV
  repeat' first | exact ang1_false | exact ang1_pure _ | refine ang1_cond _ ?_ ?_ | refine ang1_ite _ ?_ ?_ | split
theorem extractV_ang (x : V) (i : Nat) : Ang1 (fun K => extractV x i K) := by
  unfold extractV
  split
  · split
    · exact ang1_pure _
    · exact ang1_false
  · exact ang1_false

/-- What is asked of a callee. -/
def AngV (S : List V → Heap → (V → Heap → Prop) → Prop) : Prop := ∀ args K, S args [] K → ∃ v, K v [] ∧ ∀ K' : V → Heap → Prop, K' v [] → S args [] K'
def AngO (S : List V → Heap → (V → Heap → Prop) → Prop) : Prop := ∀ args H K, S args H K → ∃ v H', K v H' ∧ ∀ K' : V → Heap → Prop, K' v H' → S args H K'
def CallAng (C : Ctx) : Prop := ∀ f, match C.pass f with
  | .own => AngO (C.call f)
  | _ => AngV (C.call f)

theorem callV_ang (hc : CallAng C) (f : FuncId) (args : List V) (H : Heap) : ∀ K, callV C f args H K → ∃ v H', K v H' ∧ ((match C.pass f with | .view => true | _ => false) = true → H' = H) ∧ ∀ K' : V → Heap → Prop, K' v H' → callV C f args H K' := by
  intro K h
  have hcf := hc f
  unfold callV at h
  split at h
  · rename_i hp
    simp only [hp] at hcf
    cases hi : immuts args with
    | true =>
      simp only [hi, cond_true] at h
      obtain ⟨v, h1, h2⟩ := hcf _ _ h
      refine ⟨v, H, h1, fun _ => rfl, fun K' h' => ?_⟩
      unfold callV
      simp only [hp, hi, cond_true]
      exact h2 _ h'
    | false =>
      simp only [hi, cond_false, views3K_eq] at h
      split at h
      · rename_i args' ha
        obtain ⟨v, h1, h2⟩ := hcf _ _ h
        cases hf : flat v with
        | false => simp only [hf, cond_false] at h1
        | true =>
          simp only [hf, cond_true] at h1
          refine ⟨v, H, h1, fun _ => rfl, fun K' h' => ?_⟩
          unfold callV
          simp only [hp, hi, cond_false, views3K_eq, ha]
          exact h2 _ (by simp only [hf, cond_true]; exact h')
      · exact h.elim
  · rename_i hp
    simp only [hp] at hcf
    split at h
    · rename_i H' args' ha
      cases hi : immuts args' with
      | true =>
        simp only [hi, cond_true] at h
        obtain ⟨v, h1, h2⟩ := hcf _ _ h
        refine ⟨v, H', h1, (by rw [hp]; intro e; cases e), fun K' h' => ?_⟩
        unfold callV
        simp only [hp, ha, hi, cond_true]
        exact h2 _ h'
      | false => simp only [hi, cond_false] at h
    · exact h.elim
  · rename_i hp
    simp only [hp] at hcf
    split at h
    · split at h
      · rename_i hf
        obtain ⟨v, H', h1, h2⟩ := hcf _ _ _ h
        refine ⟨v, H', h1, (by rw [hp]; intro e; cases e), fun K' h' => ?_⟩
        unfold callV
        simp only [hp, hf]
        exact h2 _ h'
      · rename_i hf
        obtain ⟨v, H', h1, h2⟩ := hcf _ _ _ h
        refine ⟨v, H', h1, (by rw [hp]; intro e; cases e), fun K' h' => ?_⟩
        unfold callV
        simp only [hp, hf]
        exact h2 _ h'
    · rename_i hn
      obtain ⟨v, H', h1, h2⟩ := hcf _ _ _ h
      refine ⟨v, H', h1, (by rw [hp]; intro e; cases e), fun K' h' => ?_⟩
      unfold callV
      simp only [hp]
      exact h2 _ h'

/-- Where one value comes out and the memory stays. -/
theorem ang_same {T : (V → Prop) → Prop} (ht : Ang1 T) {K : V → Heap → Prop} {H : Heap} (h : T (fun v => K v H)) : ∃ v, K v H ∧ ∀ K' : V → Heap → Prop, K' v H → T (fun v => K' v H) := by
  obtain ⟨v, h1, h2⟩ := ht _ h
  exact ⟨v, h1, fun K' h' => h2 _ h'⟩

def AngH (T : (V → Heap → Prop) → Prop) : Prop := ∀ K, T K → ∃ v H', K v H' ∧ ∀ K' : V → Heap → Prop, K' v H' → T K'
theorem angH_pure (v : V) (H : Heap) : AngH (fun K => K v H) := fun K h => ⟨v, H, h, fun _ h => h⟩
theorem angH_false : AngH (fun _ => False) := fun _ h => h.elim
theorem angH_cond (b : Bool) {T T' : (V → Heap → Prop) → Prop} (h : AngH T) (h' : AngH T') : AngH (fun K => cond b (T K) (T' K)) := by cases b <;> assumption
theorem makeSliceV_ang (t : TypeId) (l c : V) (H : Heap) : AngH (fun K => makeSliceV C t l c H K) := by
  unfold makeSliceV
  repeat' first | exact angH_false | exact angH_pure _ _ | refine angH_cond _ ?_ ?_ | split
theorem buildSliceV_ang (t : TypeId) (len : Nat) (ps : List (Nat × V)) (H : Heap) : AngH (fun K => buildSliceV C t len ps H K) := by
  unfold buildSliceV
  repeat' first | exact angH_false | exact angH_pure _ _ | refine angH_cond _ ?_ ?_ | split
/-- Where the order is open: an empty slice that nobody can write. -/
def buildDr (C : Ctx) (t : TypeId) (len : Nat) (parts : List (Nat × V)) (K : V → Prop) : Prop :=
  match (C.ti t).desc with
  | .slice e =>
    bif Nat.beq (C.ti e).size (C.ti t).ty.size && Nat.ble (len * (C.ti e).size) 16777216 && !Nat.beq (C.ti e).size 0 && Nat.beq (zeroCells (C.ti e)).length (C.ti e).size then
      match fillV (fun i => some (i * (C.ti e).size, (C.ti e).size)) (rep len (zeroCells (C.ti e))) parts with
      | some cs => K (.empty false true)
      | none => False
    else False
  | _ => False
theorem buildSliceV_dr {t : TypeId} {len : Nat} (hd : (C.dr && Nat.beq len 0) = true) (ps : List (Nat × V)) (H : Heap) (K : V → Heap → Prop) : buildSliceV C t len ps H K = buildDr C t len ps fun v => K v H := by
  simp only [buildSliceV, buildDr, hd, cond_true]
  rfl
/-- Where the order is open: elements without slices, that nobody writes. -/
def buildDv (C : Ctx) (t : TypeId) (len : Nat) (parts : List (Nat × V)) (K : V → Prop) : Prop :=
  match (C.ti t).desc with
  | .slice e =>
    bif Nat.beq (C.ti e).size (C.ti t).ty.size && Nat.ble (len * (C.ti e).size) 16777216 && !Nat.beq (C.ti e).size 0 && Nat.beq (zeroCells (C.ti e)).length (C.ti e).size then
      match fillV (fun i => some (i * (C.ti e).size, (C.ti e).size)) (rep len (zeroCells (C.ti e))) parts with
      | some cs =>
        match decN (C.ti t).ty len cs with
        | some xs => K (.vec (C.ti t).ty xs)
        | none => False
      | none => False
    else False
  | _ => False
theorem buildSliceV_dv {t : TypeId} {len : Nat} (hd : (C.dr && Nat.beq len 0) = false) (hv : (C.dr && (C.mv && flatTy (C.ti t).ty)) = true) (ps : List (Nat × V)) (H : Heap) (K : V → Heap → Prop) : buildSliceV C t len ps H K = buildDv C t len ps fun v => K v H := by
  simp only [buildSliceV, buildDv, hd, hv, cond_true, cond_false]
  rfl
theorem buildDv_ang (t : TypeId) (len : Nat) (ps : List (Nat × V)) : Ang1 (fun K => buildDv C t len ps K) := by
  unfold buildDv
  repeat' first | exact ang1_false | exact ang1_pure _ | refine ang1_cond _ ?_ ?_ | split
theorem buildDr_ang (t : TypeId) (len : Nat) (ps : List (Nat × V)) : Ang1 (fun K => buildDr C t len ps K) := by
  unfold buildDr
  repeat' first | exact ang1_false | exact ang1_pure _ | refine ang1_cond _ ?_ ?_ | split
theorem appendDV_ang (t e : TypeId) (x : V) (j v : Nat) (H : Heap) : AngH (fun K => appendDV C t e x j v H K) := by
  unfold appendDV
  repeat' first | exact angH_false | exact angH_pure _ _ | refine angH_cond _ ?_ ?_ | split
theorem appendV_ang (t : TypeId) (x y : V) (H : Heap) : AngH (fun K => appendV C t x y H K) := by
  unfold appendV
  repeat' first | exact angH_false | exact angH_pure _ _ | exact appendDV_ang _ _ _ _ _ _ | refine angH_cond _ ?_ ?_ | split
theorem appendZ_ang (t u : TypeId) (x y : V) (H : Heap) : AngH (fun K => appendZ C t u x y H K) := by
  unfold appendZ
  repeat' first | exact angH_false | exact angH_pure _ _ | refine angH_cond _ ?_ ?_ | split
theorem sliceV_ang (t : TypeId) (x : V) (lo hi : Option V) (H : Heap) : AngH (fun K => sliceV C t x lo hi H K) := by
  unfold sliceV
  repeat' first | exact angH_false | exact angH_pure _ _ | refine angH_cond _ ?_ ?_ | split
theorem strToBytesV_ang (s d : TypeId) (x : V) (H : Heap) : AngH (fun K => strToBytesV C s d x H K) := by
  unfold strToBytesV
  repeat' first | exact angH_false | exact angH_pure _ _ | refine angH_cond _ ?_ ?_ | split
theorem bytesToStrV_ang (s d : TypeId) (x : V) (H : Heap) : Ang1 (fun K => bytesToStrV C s d x H K) := by
  unfold bytesToStrV
  repeat' first | exact ang1_false | exact ang1_pure _ | split
theorem maxV_ang (x y : V) : Ang1 (fun K => maxV x y K) := by
  unfold maxV
  repeat' first | exact ang1_false | exact ang1_pure _ | split
theorem minV_ang (x y : V) : Ang1 (fun K => minV x y K) := by
  unfold minV
  repeat' first | exact ang1_false | exact ang1_pure _ | split

def noCut : Op → Bool
  | .slice .. => false
  | .call { callee := .value (.tmp _), .. } => false
  | _ => true

theorem evalOp_ang (hc : CallAng C) (o : Oper) (ρ : Operand → V) (hρ : ∀ f, ρ (.func f) = .fn f []) (H : Heap) (K : V → Heap → Prop) (h : evalOp C o ρ H K) :
    ∃ v H', K v H' ∧ ((kindOf C o.op).eff = false → noCut o.op = true → H' = H) ∧ ∀ K' : V → Heap → Prop, K' v H' → evalOp C o ρ H K' := by
  have same : ∀ {T : (V → Prop) → Prop}, Ang1 T → (∀ K, evalOp C o ρ H K = T (fun v => K v H)) → ∃ v H', K v H' ∧ ((kindOf C o.op).eff = false → noCut o.op = true → H' = H) ∧ ∀ K' : V → Heap → Prop, K' v H' → evalOp C o ρ H K' := by
    intro T ht he
    rw [he] at h
    obtain ⟨v, h1, h2⟩ := ang_same ht h
    exact ⟨v, H, h1, fun _ _ => rfl, fun K' h' => by rw [he]; exact h2 K' h'⟩
  obtain ⟨dst, op, type, pos, after, guard⟩ := o
  cases op
  case move x => exact same (ang1_pure (ρ x)) fun K => rfl
  case assign x => exact same (ang1_pure (ρ x)) fun K => rfl
  case pick c a b =>
    simp only [evalOp] at h
    split at h
    · rename_i t ht
      refine same (T := fun K => cond t (K (ρ a)) (K (ρ b))) (ang1_cond _ (ang1_pure _) (ang1_pure _)) fun K => ?_
      simp only [evalOp, ht]
    · exact h.elim
  case alloc t =>
    simp only [evalOp] at h
    split at h
    · rename_i e he
      exact ⟨_, _, h, (by simp [kindOf, Kd.eff, noCut]), fun K' h' => by simp only [evalOp, he]; exact h'⟩
    · rename_i he
      cases hz : !Nat.beq (C.ti t).size 0 with
      | false => simp only [hz, cond_false] at h
      | true =>
        simp only [hz, cond_true] at h
        exact ⟨_, _, h, (by simp [kindOf, Kd.eff, noCut]), fun K' h' => by simp only [evalOp, he, hz, cond_true]; exact h'⟩
  case box t x =>
    simp only [evalOp] at h
    split at h
    · rename_i vs hv
      exact ⟨_, _, h, (by simp [kindOf, Kd.eff, noCut]), fun K' h' => by simp only [evalOp, hv]; exact h'⟩
    · exact h.elim
  case build t ps => exact same (buildV_ang t _) fun K => rfl
  case buildSlice t len ps =>
    cases hdr : (C.dr && Nat.beq len 0) with
    | true => exact same (buildDr_ang t len _) fun K => by simp only [evalOp]; exact buildSliceV_dr hdr _ _ _
    | false =>
    cases hdv : (C.dr && (C.mv && flatTy (C.ti t).ty)) with
    | true => exact same (buildDv_ang t len _) fun K => by simp only [evalOp]; exact buildSliceV_dv hdr hdv _ _ _
    | false =>
    simp only [evalOp] at h
    obtain ⟨v, H', h1, h2⟩ := buildSliceV_ang _ _ _ _ _ h
    exact ⟨v, H', h1, (by cases hd : C.deep <;> simp [kindOf, Kd.eff, noCut, hd, hdr, hdv]), fun K' h' => by simp only [evalOp]; exact h2 _ h'⟩
  case load t a => exact same (loadV_ang t _ H) fun K => rfl
  case store t a x =>
    simp only [evalOp] at h
    obtain ⟨H', h1, h2⟩ := storeV_ang t _ _ H _ h
    exact ⟨_, H', h1, (by simp [kindOf, Kd.eff, noCut]), fun K' h' => by simp only [evalOp]; exact h2 _ h'⟩
  case nilCheck x =>
    simp only [evalOp] at h
    split at h
    · rename_i hx; exact ⟨_, _, h, fun _ _ => rfl, fun K' h' => by simp only [evalOp, hx]; exact h'⟩
    · rename_i hx; exact ⟨_, _, h, fun _ _ => rfl, fun K' h' => by simp only [evalOp, hx]; exact h'⟩
    · rename_i hx; exact ⟨_, _, h, fun _ _ => rfl, fun K' h' => by simp only [evalOp, hx]; exact h'⟩
    · rename_i hx; exact ⟨_, _, h, fun _ _ => rfl, fun K' h' => by simp only [evalOp, hx]; exact h'⟩
    · exact h.elim
  case binOp op t x y yt => exact same (binV_ang op t _ _) fun K => rfl
  case unOp op t x => exact same (unV_ang op _) fun K => rfl
  case convert s d x =>
    cases hk : cvKind C s d with
    | reads => exact same (bytesToStrV_ang (C := C) s d (ρ x) H) fun K => by simp only [evalOp, hk]
    | alloc =>
      simp only [evalOp, hk] at h
      obtain ⟨v, H', h1, h2⟩ := strToBytesV_ang _ _ _ _ _ h
      exact ⟨v, H', h1, (by simp [kindOf, Kd.eff, hk]), fun K' h' => by simp only [evalOp, hk]; exact h2 _ h'⟩
    | blind => exact same (convV_ang (C := C) s d (ρ x)) fun K => by simp only [evalOp, hk]
    | writes => exact same (convV_ang (C := C) s d (ρ x)) fun K => by simp only [evalOp, hk]
  case fieldAddr s x f => exact same (fieldAddrV_ang s _ f) fun K => rfl
  case field s x f => exact same (fieldV_ang s _ f) fun K => rfl
  case indexAddr t x i => exact same (indexAddrV_ang t _ _ H) fun K => rfl
  case index t x i => exact same (indexV_ang t _ _) fun K => rfl
  case extract x i => exact same (extractV_ang _ i) fun K => rfl
  case makeFunc fn first cap =>
    simp only [evalOp] at h
    split at h
    · rename_i f
      cases hz : Nat.beq first.size 0 with
      | false => simp only [hz, cond_false] at h
      | true =>
        simp only [hz, cond_true] at h
        exact ⟨_, _, h, fun _ _ => rfl, fun K' h' => by simp only [evalOp, hz, cond_true]; exact h'⟩
    · exact h.elim
  case makeSlice t l c =>
    simp only [evalOp] at h
    obtain ⟨v, H', h1, h2⟩ := makeSliceV_ang _ _ _ _ _ h
    exact ⟨v, H', h1, (by simp [kindOf, Kd.eff, noCut]), fun K' h' => by simp only [evalOp]; exact h2 _ h'⟩
  case slice t x lo hi mx =>
    cases mx with
    | none =>
      simp only [evalOp] at h
      obtain ⟨v, H', h1, h2⟩ := sliceV_ang _ _ _ _ _ _ h
      exact ⟨v, H', h1, (by simp [kindOf, Kd.eff, noCut]), fun K' h' => by simp only [evalOp]; exact h2 _ h'⟩
    | some m => simp only [evalOp] at h
  case call c =>
    obtain ⟨callee, args, argTypes⟩ := c
    cases callee with
    | value f =>
      simp only [evalOp] at h
      split at h
      · rename_i g cap hf
        obtain ⟨v, H', h1, h3, h2⟩ := callV_ang hc _ _ _ _ h
        refine ⟨v, H', h1, fun hq hnc => ?_, fun K' h' => by simp only [evalOp, hf]; exact h2 _ h'⟩
        cases f with
        | tmp n => cases hnc
        | func fid =>
          simp only [kindOf] at hq
          rw [hρ] at hf
          cases hf
          refine h3 ?_
          revert hq
          cases C.pass _ <;> simp [Kd.eff]
        | _ => simp [kindOf, Kd.eff] at hq
      · exact h.elim
    | builtin b =>
      cases b
      case len =>
        simp only [evalOp] at h
        split at h
        · rename_i x hx
          split at h
          · rename_i t ht
            split at h
            · rename_i hd
              obtain ⟨v, h1, h2⟩ := ang_same (lenV_ang _ _) h
              exact ⟨v, H, h1, fun _ _ => rfl, fun K' h' => by simp only [evalOp, hx, ht, hd]; exact h2 _ h'⟩
            · rename_i hd
              split at h
              · rename_i s hs
                exact ⟨_, H, h, fun _ _ => rfl, fun K' h' => by simp only [evalOp, hx, ht, hd, hs]; exact h'⟩
              · exact h.elim
            · rename_i n e hd
              cases hn : Nat.ble n 9223372036854775807 with
              | false => simp only [hn, cond_false] at h
              | true =>
                simp only [hn, cond_true] at h
                exact ⟨_, H, h, fun _ _ => rfl, fun K' h' => by simp only [evalOp, hx, ht, hd, hn, cond_true]; exact h'⟩
            · exact h.elim
          · exact h.elim
        · exact h.elim
      case append =>
        simp only [evalOp] at h
        split at h
        · rename_i x y hx
          split at h
          · rename_i t u ht
            cases hb : Nat.beq t u with
            | false =>
              simp only [hb, cond_false] at h
              obtain ⟨v, H', h1, h2⟩ := appendZ_ang _ _ _ _ _ _ h
              exact ⟨v, H', h1, (by simp [kindOf, Kd.eff, noCut]), fun K' h' => by simp only [evalOp, hx, ht, hb, cond_false]; exact h2 _ h'⟩
            | true =>
              simp only [hb, cond_true] at h
              obtain ⟨v, H', h1, h2⟩ := appendV_ang _ _ _ _ _ h
              exact ⟨v, H', h1, (by simp [kindOf, Kd.eff, noCut]), fun K' h' => by simp only [evalOp, hx, ht, hb, cond_true]; exact h2 _ h'⟩
          · exact h.elim
        · exact h.elim
      case cap =>
        simp only [evalOp] at h
        split at h
        · rename_i x hx
          split at h
          · rename_i t ht
            split at h
            · rename_i e hd
              split at h
              · rename_i hn
                exact ⟨_, H, h, fun _ _ => rfl, fun K' h' => by simp only [evalOp, hx, ht, hd, hn]; exact h'⟩
              · exact h.elim
            · exact h.elim
          · exact h.elim
        · exact h.elim
      case max =>
        simp only [evalOp] at h
        split at h
        · rename_i x y hx
          obtain ⟨v, h1, h2⟩ := maxV_ang _ _ _ h
          exact ⟨v, H, h1, fun _ _ => rfl, fun K' h' => by simp only [evalOp, hx]; exact h2 _ h'⟩
        · exact h.elim
      case min =>
        simp only [evalOp] at h
        split at h
        · rename_i x y hx
          obtain ⟨v, h1, h2⟩ := minV_ang _ _ _ h
          exact ⟨v, H, h1, fun _ _ => rfl, fun K' h' => by simp only [evalOp, hx]; exact h2 _ h'⟩
        · exact h.elim
      all_goals (simp only [evalOp] at h)
    | invoke x m => simp only [evalOp] at h
  all_goals (simp only [evalOp] at h)
end
end Go.Ev
