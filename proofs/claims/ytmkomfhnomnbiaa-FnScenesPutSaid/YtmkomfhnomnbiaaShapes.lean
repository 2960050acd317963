/- Shapes and lists of shapes, as the laws copy, count and compare them. -/
import Derived.Test.YtmkomfhnomnbiaaShape
set_option linter.unusedVariables false
set_option linter.unusedSimpArgs false
set_option maxRecDepth 100000
namespace Go.Proofs.Ytmkomfhnomnbiaa
open Go.Ev

--B wNode NodeD → Nat
def wNode (n : NodeD) : Nat := n.2.2.2.length
abbrev tS : Ty := .slice tN
abbrev ShapeD := List NodeD
--B wShape ShapeD → Nat
def wShape (s : ShapeD) : Nat := wList wNode s











def fitN (n : NodeD) : Bool := decide (n.2.2.2.length ≤ 1048576)
def fitS (s : ShapeD) : Bool := decide (s.length ≤ 1048576) && s.all fitN









theorem fitS_of {s : ShapeD} (h : wShape s ≤ 1048576) : fitS s = true := by
  unfold fitS
  have h1 := wList_ge wNode s
  simp only [Bool.and_eq_true, decide_eq_true_eq]
  refine ⟨by unfold wShape at h; omega, List.all_eq_true.2 fun n hn => decide_eq_true ?_⟩
  have := mem_le wNode hn
  unfold wShape wList at h
  have e : wNode n = n.2.2.2.length := rfl
  omega

end Go.Proofs.Ytmkomfhnomnbiaa
