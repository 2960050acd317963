/- Things that one owns: made, marked, and found marked. -/
import Derived.Test.YtmkomfhnomnbiaaScene
import Derived.Test.YtmkomfhnomnbiaaDeep
set_option linter.unusedVariables false
set_option linter.unusedSimpArgs false
set_option maxRecDepth 100000
namespace Go.Proofs.Ytmkomfhnomnbiaa
open Go.Ev


--B mkK Int → KeyD → KeyD
def mkK (k : Int) (_ : KeyD) : KeyD := (k, FloatKind.f32.nearest (k + 1), FloatKind.f32.nearest (k + 2), FloatKind.f32.nearest (k + 3))
--B wK KeyD → Nat
def wK (_ : KeyD) : Nat := 4
theorem wK_pos (x : KeyD) : 1 ≤ wK x := by unfold wK; omega






abbrev pT : List Po := [.imm .str, .deep tN, .own tK]



theorem mkN_idem (k : Int) (x : NodeD) : mkN k (mkN k x) = mkN k x := by unfold mkN; simp only [markF_len]
theorem wN_mk (k : Int) (x : NodeD) : wN (mkN k x) = wN x := by unfold wN mkN; simp only [markF_len]
theorem mkK_idem (k : Int) (x : KeyD) : mkK k (mkK k x) = mkK k x := rfl
theorem wK_mk (k : Int) (x : KeyD) : wK (mkK k x) = wK x := rfl
theorem sumWN_cons (x : NodeD) (s : ShapeD) : sumW wN (x :: s) = 3 + x.2.2.2.length + sumW wN s := by simp [sumW, wN]
theorem sumWN_le : ∀ s : ShapeD, sumW wN s ≤ 3 * wShape s
  | [] => by simp [sumW]
  | x :: s => by
    have := sumWN_le s
    rw [sumWN_cons]
    have e : wShape (x :: s) = wShape s + 1 + wNode x := by simp [wShape, wList]; omega
    have e2 : wNode x = x.2.2.2.length := rfl
    omega
theorem sumWK (ks : List KeyD) : sumW wK ks = 4 * ks.length := by
  induction ks with
  | nil => rfl
  | cons x s ih => simp only [sumW, List.map_cons, List.sum_cons, List.length_cons] at *; rw [ih]; unfold wK; omega
theorem fitT_of {t : ThingD} (h : wThing t ≤ 1048576) : fitT t = true := by
  unfold fitT
  unfold wThing at h
  rw [fitS_of (by omega), Bool.true_and]
  exact decide_eq_true (by omega)
/-- The numbers that a thing is marked with are few. -/
theorem markT_le {t : ThingD} (h : wThing t ≤ 1048576) : sumW wN t.2.1 + sumW wK t.2.2 ≤ 4194304 := by
  have h1 := sumWN_le t.2.1
  rw [sumWK]
  unfold wThing at h
  omega

end Go.Proofs.Ytmkomfhnomnbiaa
