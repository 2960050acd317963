/- Loops by measure: one round at a time. -/
import Derived.Test.YtfdalaakechldaaEvUse
set_option linter.unusedVariables false
set_option linter.unusedSimpArgs false
namespace Go.Ev

def kSeq (C : Ctx) (b : Code) (K : Ex → Fr → Heap → Prop) : Ex → Fr → Heap → Prop := fun e fr H =>
  match e with
  | .normal => wpE C b fr H K
  | .ret => K .ret fr H
  | .exit id => K (.exit id) fr H
def kBlock (id : Nat) (K : Ex → Fr → Heap → Prop) : Ex → Fr → Heap → Prop := fun e fr H =>
  match e with
  | .normal => K .normal fr H
  | .ret => K .ret fr H
  | .exit id' => bif Nat.beq id' id then K .normal fr H else K (.exit id') fr H
def kFn (C : Ctx) (fn : Func) (hs : Heap) (K : V → Heap → Prop) : Ex → Fr → Heap → Prop := fun e fr H =>
  match e with
  | .exit _ => False
  | _ => bif Nat.ble hs.length H.length then
      resV C fr H fn.results.toList fun vs => outV hs.length H vs K
    else False

def kFnO (C : Ctx) (fn : Func) (hs : Heap) (K : V → Heap → Prop) : Ex → Fr → Heap → Prop := fun e fr H =>
  match e with
  | .exit _ => False
  | _ => bif Nat.ble hs.length H.length then resV C fr H fn.results.toList fun vs => outO hs.length H vs K else False

def kFnG (ps : List (List (Option Ty))) (C : Ctx) (fn : Func) (hs : Heap) (K : V → Heap → Prop) : Ex → Fr → Heap → Prop := fun e fr H =>
  match e with
  | .exit _ => False
  | _ => bif Nat.ble hs.length H.length then resV C fr H fn.results.toList fun vs => outG ps hs.length H vs K else False

/-- The loop of a first region's number, in a code: its body, and what comes behind it. -/
def findLoop (C : Ctx) (n : Nat) : Code → (Ex → Fr → Heap → Prop) → Option (Code × (Ex → Fr → Heap → Prop))
  | .seq a b, K => match findLoop C n a (kSeq C b K) with
    | some r => some r
    | none => findLoop C n b K
  | .block id b, K => findLoop C n b (kBlock id K)
  | .loop b, K => bif Nat.beq (firstRegion b) n then some (b, K) else none
  | .cond c a b, K => match findLoop C n a K with
    | some r => some r
    | none => findLoop C n b K
  | _, _ => none

/-- The loop's body in a code, and what comes behind it. -/
def lbC (C : Ctx) (n : Nat) (c : Code) : Code := ((findLoop C n c fun _ _ _ => True).getD (.skip, fun _ _ _ => True)).1
def lkC (C : Ctx) (n : Nat) (c : Code) (K : Ex → Fr → Heap → Prop) : Ex → Fr → Heap → Prop := ((findLoop C n c K).getD (.skip, K)).2
def bodyOf (fn : Func) : Code := fn.body.getD .skip
def lb (C : Ctx) (n : Nat) (fn : Func) : Code := lbC C n (bodyOf fn)
def lk (C : Ctx) (n : Nat) (fn : Func) (hs : Heap) (K : V → Heap → Prop) : Ex → Fr → Heap → Prop := lkC C n (bodyOf fn) (kFn C fn hs K)

def lkO (C : Ctx) (n : Nat) (fn : Func) (hs : Heap) (K : V → Heap → Prop) : Ex → Fr → Heap → Prop := lkC C n (bodyOf fn) (kFnO C fn hs K)

def lkG (ps : List (List (Option Ty))) (C : Ctx) (n : Nat) (fn : Func) (hs : Heap) (K : V → Heap → Prop) : Ex → Fr → Heap → Prop := lkC C n (bodyOf fn) (kFnG ps C fn hs K)

def kRound (a : Ann) (Kn : Fr → Heap → Prop) (K : Ex → Fr → Heap → Prop) : Ex → Fr → Heap → Prop := fun e fr' H' =>
  match e with
  | .normal => Kn (normFr a fr' H') (normH a fr' H')
  | .ret => K .ret fr' H'
  | .exit id => K (.exit id) fr' H'
def round (C : Ctx) (a : Ann) (body : Code) (fr : Fr) (H : Heap) (Kn : Fr → Heap → Prop) (K : Ex → Fr → Heap → Prop) : Prop :=
  wpE C body fr H (kRound a Kn K)

/-- A loop within loops: its body, and what comes behind it. -/
def pathB (C : Ctx) : List Nat → Code → Code
  | [], c => c
  | n :: r, c => pathB C r (lbC C n c)
def pathK (C : Ctx) : List (Nat × Ann × (Fr → Heap → Prop)) → Nat → Code → (Ex → Fr → Heap → Prop) → Ex → Fr → Heap → Prop
  | [], n, c, K => lkC C n c K
  | p :: r, n, c, K => pathK C r n (lbC C p.1 c) (kRound p.2.1 p.2.2 (lkC C p.1 c K))

/-- The loop, as it stands in a function's equation. -/
def LoopE (C : Ctx) (a : Ann) (body : Code) (fr : Fr) (H : Heap) (K : Ex → Fr → Heap → Prop) : Prop := ∃ n, loopN (wpE C body) (some a) n fr H K

theorem loop_run {C : Ctx} {a : Ann} {body : Code} {K : Ex → Fr → Heap → Prop} {σ : Type} (fr : σ → Fr) (H : σ → Heap) (I : σ → Prop) (μ : σ → Nat)
    (h : ∀ s, I s → ∀ Kn : Fr → Heap → Prop, (∀ s', I s' → μ s' < μ s → Kn (fr s') (H s')) → round C a body (fr s) (H s) Kn K) (s : σ) (hs : I s) : LoopE C a body (fr s) (H s) K := by
  have key : ∀ n s, I s → μ s < n → loopN (wpE C body) (some a) n (fr s) (H s) K := by
    intro n
    induction n with
    | zero => intro s _ hn; omega
    | succ n ih =>
      intro s hi hn
      exact h s hi (fun fr' H' => loopN (wpE C body) (some a) n fr' H' K) fun s' hi' hm => ih s' hi' (by omega)
  exact ⟨μ s + 1, key _ s hs (Nat.lt_succ_self _)⟩

end Go.Ev
