/- Scenes that one owns: made, marked, and found marked. -/
import Derived.Test.YtmkomfhnomnbiaaDeepT
set_option linter.unusedVariables false
set_option linter.unusedSimpArgs false
set_option maxRecDepth 100000
namespace Go.Proofs.Ytmkomfhnomnbiaa
open Go.Ev

theorem cond_intro {b : Bool} {P Q : Prop} (h : b = true) (hp : P) : cond b P Q := by rw [h]; exact hp
def mdig : Nat → Nat → Str
  | 0, _ => []
  | f + 1, k => bif Nat.beq k 0 then [] else mdig f (k / 10) ++ [UInt8.ofNat (48 + k % 10)]
--B mtx Int → Str
def mtx (k : Int) : Str := bif decide (k ≤ 0) then [109, 48] else 109 :: mdig (k.toNat + 1) k.toNat

theorem mdig_fuel : ∀ (f g k : Nat), k < f → k < g → mdig f k = mdig g k
  | 0, _, _, h, _ => by omega
  | _, 0, _, _, h => by omega
  | f + 1, g + 1, k, h1, h2 => by
    simp only [mdig]
    cases e : Nat.beq k 0 with
    | true => rfl
    | false =>
      have hk : k ≠ 0 := fun e' => by subst e'; cases e
      rw [mdig_fuel f g (k / 10) (by omega) (by omega)]
theorem mdig_step (k : Nat) (h : 0 < k) : mdig (k + 1) k = mdig (k / 10 + 1) (k / 10) ++ [UInt8.ofNat (48 + k % 10)] := by
  conv => lhs; rw [mdig]
  have : Nat.beq k 0 = false := by cases k with | zero => omega | succ n => rfl
  rw [this, cond_false, mdig_fuel k (k / 10 + 1) (k / 10) (by omega) (by omega)]


--B mkT Int → ThingD → ThingD
def mkT (k : Int) (x : ThingD) : ThingD := (mtx k, markL mkN wN (k + 1) x.2.1, markL mkK wK (k + 1 + sumW wN x.2.1) x.2.2)
--B wT ThingD → Nat
def wT (x : ThingD) : Nat := 1 + sumW wN x.2.1 + sumW wK x.2.2
theorem wT_pos (x : ThingD) : 1 ≤ wT x := by unfold wT; omega
theorem putT1 (x : ThingD) (ys : ShapeD) : putAt tT x 1 tN ys = (x.1, ys, x.2.2) := rfl
theorem putT2 (x : ThingD) (ys : List KeyD) : putAt tT x 2 tK ys = (x.1, x.2.1, ys) := rfl







theorem mkT_idem (k : Int) (x : ThingD) : mkT k (mkT k x) = mkT k x := by
  unfold mkT
  simp only [sumW_markL wN_mk, markL_idem mkN_idem wN_mk, markL_idem mkK_idem wK_mk]
theorem wT_mk (k : Int) (x : ThingD) : wT (mkT k x) = wT x := by
  unfold wT mkT
  simp only [sumW_markL wN_mk, sumW_markL wK_mk]
theorem sumWT_cons (x : ThingD) (s : List ThingD) : sumW wT (x :: s) = wT x + sumW wT s := by simp [sumW]
theorem wT_le (t : ThingD) : wT t ≤ 4 * wThing t + 1 := by
  have h1 := sumWN_le t.2.1
  unfold wT wThing
  rw [sumWK]
  omega
theorem sumWT_le : ∀ s : List ThingD, sumW wT s ≤ 4 * wScene s
  | [] => by simp [sumW]
  | x :: s => by
    have := sumWT_le s
    rw [sumWT_cons]
    have e : wScene (x :: s) = wScene s + 1 + wThing x := by simp [wScene, wList]; omega
    have e2 := wT_le x
    omega
/-- The numbers that a scene is marked with are few. -/
theorem markC_le {ts : List ThingD} (h : wScene ts ≤ 1048576) : sumW wT ts ≤ 4194304 := by
  have := sumWT_le ts
  omega

end Go.Proofs.Ytmkomfhnomnbiaa
