/-
  No cell of these rows narrows 'for every input' (looked for: loops, veiled, ifaces, maps, wideKeys, modest, calm, conditions, laid).
  DERIVED. THE GIVEN ROWS OF THIS SEAT. 5 by the template 'for every input the law returns true; each argument reads behind the call as it read before'; 0 by the template 'total and deterministic' (their statements: YtobdbgdgingjjaaTotals.lean).
  GIVEN WITH THE SEED: the statements are not yours to turn. If you find one false, say at which input.
  Laid BY PROGRAM, IN A SANDBOX (cutbox-rows.mjs): the forced cells as the released guide's own fill.sh prints them over the translation 311c22f7d8e69cc3… (all of the seat's roots in one cut). By AI agents, Wed Nov 11 2026. No macro, syntax, notation, axiom, sorry.
-/
import Derived.Test.YtobdbgdgingjjaaChecked
import GoSem.Claim
import GoSem.ClaimJoined
import GoSem.ClaimMapViews
import Derived.JoinedTies
import Derived.KernelRfl
namespace Go.Proofs.Ytobdbgdgingjjaa
/- THE CELL 'sum', in the pinned program and in every row, IS THE sha256 OF THE DUMP (.gsa) THAT YtobdbgdgingjjaaProg.lean LOADS. Nothing in Lean hashes anything: it is a label: what it is worth is what the hold of that sum in a sandbox is worth. -/
noncomputable def Try.pinned : Pinned := { name := "ytobdbgdgingjjaa", sum := "311c22f7d8e69cc3c6d718d53b24428bc08d3f3f82e99ec11629766b470f51f1", checked := Try.checked }
namespace Rows
def none {H : Type} : Left H := { results := [], args := [] }

/-- 'laws.FnExactSameMesh': WHATEVER THE INPUT: true; the input reads as it did. -/
def fnExactSameMeshSpec : ChangeSpec := { name := "fnExactSameMesh", fn := fun _ => fun
  | [d1, d2] => { results := [.lit (.bool true)], args := [d1, d2] }
  | _ => none }
def fnExactSameMeshRow : OpenClaim := { program := "ytobdbgdgingjjaa", sum := "311c22f7d8e69cc3c6d718d53b24428bc08d3f3f82e99ec11629766b470f51f1", func := "loop.example/g01193/laws.FnExactSameMesh", spec := "fnExactSameMesh", inPlace := ["math.Float32bits"], unfollowed := true, recurses := true, apart := false }
def FnExactSameMeshSaid : Prop := fnExactSameMeshRow.holds Try.pinned (OpenSpec.ofChange fnExactSameMeshSpec)

/-- ITS FALSE NEIGHBOUR: 'it returns false'. Refute it at one input. -/
def fnExactSameMeshWrong : ChangeSpec := { name := "fnExactSameMesh", fn := fun _ => fun
  | [d1, d2] => { results := [.lit (.bool false)], args := [d1, d2] }
  | _ => none }
def FnExactSameMeshWrongFalsely : Prop := fnExactSameMeshRow.holds Try.pinned (OpenSpec.ofChange fnExactSameMeshWrong)

/-- 'laws.FnExactJoinGrids': WHATEVER THE INPUT: true; the input reads as it did. -/
def fnExactJoinGridsSpec : ChangeSpec := { name := "fnExactJoinGrids", fn := fun _ => fun
  | [d1, d2, d3] => { results := [.lit (.bool true)], args := [d1, d2, d3] }
  | _ => none }
def fnExactJoinGridsRow : OpenClaim := { program := "ytobdbgdgingjjaa", sum := "311c22f7d8e69cc3c6d718d53b24428bc08d3f3f82e99ec11629766b470f51f1", func := "loop.example/g01193/laws.FnExactJoinGrids", spec := "fnExactJoinGrids", inPlace := ["math.Float32bits"], unfollowed := true, recurses := true, apart := false }
def FnExactJoinGridsSaid : Prop := fnExactJoinGridsRow.holds Try.pinned (OpenSpec.ofChange fnExactJoinGridsSpec)

/-- ITS FALSE NEIGHBOUR: 'it returns false'. Refute it at one input. -/
def fnExactJoinGridsWrong : ChangeSpec := { name := "fnExactJoinGrids", fn := fun _ => fun
  | [d1, d2, d3] => { results := [.lit (.bool false)], args := [d1, d2, d3] }
  | _ => none }
def FnExactJoinGridsWrongFalsely : Prop := fnExactJoinGridsRow.holds Try.pinned (OpenSpec.ofChange fnExactJoinGridsWrong)

/-- 'laws.FnExactValidDesk': WHATEVER THE INPUT: true; the input reads as it did. -/
def fnExactValidDeskSpec : ChangeSpec := { name := "fnExactValidDesk", fn := fun _ => fun
  | [d] => { results := [.lit (.bool true)], args := [d] }
  | _ => none }
def fnExactValidDeskRow : OpenClaim := { program := "ytobdbgdgingjjaa", sum := "311c22f7d8e69cc3c6d718d53b24428bc08d3f3f82e99ec11629766b470f51f1", func := "loop.example/g01193/laws.FnExactValidDesk", spec := "fnExactValidDesk", unfollowed := true, recurses := true, apart := false }
def FnExactValidDeskSaid : Prop := fnExactValidDeskRow.holds Try.pinned (OpenSpec.ofChange fnExactValidDeskSpec)

/-- ITS FALSE NEIGHBOUR: 'it returns false'. Refute it at one input. -/
def fnExactValidDeskWrong : ChangeSpec := { name := "fnExactValidDesk", fn := fun _ => fun
  | [d] => { results := [.lit (.bool false)], args := [d] }
  | _ => none }
def FnExactValidDeskWrongFalsely : Prop := fnExactValidDeskRow.holds Try.pinned (OpenSpec.ofChange fnExactValidDeskWrong)

/-- 'laws.FnExactShapeOfBytes': WHATEVER THE INPUT: true; the input reads as it did. -/
def fnExactShapeOfBytesSpec : ChangeSpec := { name := "fnExactShapeOfBytes", fn := fun _ => fun
  | [d] => { results := [.lit (.bool true)], args := [d] }
  | _ => none }
def fnExactShapeOfBytesRow : OpenClaim := { program := "ytobdbgdgingjjaa", sum := "311c22f7d8e69cc3c6d718d53b24428bc08d3f3f82e99ec11629766b470f51f1", func := "loop.example/g01193/laws.FnExactShapeOfBytes", spec := "fnExactShapeOfBytes", inPlace := ["math.Float32frombits", "math.Float32bits"], unfollowed := true, recurses := true, apart := false }
def FnExactShapeOfBytesSaid : Prop := fnExactShapeOfBytesRow.holds Try.pinned (OpenSpec.ofChange fnExactShapeOfBytesSpec)

/-- ITS FALSE NEIGHBOUR: 'it returns false'. Refute it at one input. -/
def fnExactShapeOfBytesWrong : ChangeSpec := { name := "fnExactShapeOfBytes", fn := fun _ => fun
  | [d] => { results := [.lit (.bool false)], args := [d] }
  | _ => none }
def FnExactShapeOfBytesWrongFalsely : Prop := fnExactShapeOfBytesRow.holds Try.pinned (OpenSpec.ofChange fnExactShapeOfBytesWrong)

/-- 'laws.FnExactCompileShape': WHATEVER THE INPUT: true; the input reads as it did. -/
def fnExactCompileShapeSpec : ChangeSpec := { name := "fnExactCompileShape", fn := fun _ => fun
  | [d] => { results := [.lit (.bool true)], args := [d] }
  | _ => none }
def fnExactCompileShapeRow : OpenClaim := { program := "ytobdbgdgingjjaa", sum := "311c22f7d8e69cc3c6d718d53b24428bc08d3f3f82e99ec11629766b470f51f1", func := "loop.example/g01193/laws.FnExactCompileShape", spec := "fnExactCompileShape", inPlace := ["math.Float32bits"], unfollowed := true, recurses := true, apart := false }
def FnExactCompileShapeSaid : Prop := fnExactCompileShapeRow.holds Try.pinned (OpenSpec.ofChange fnExactCompileShapeSpec)

/-- ITS FALSE NEIGHBOUR: 'it returns false'. Refute it at one input. -/
def fnExactCompileShapeWrong : ChangeSpec := { name := "fnExactCompileShape", fn := fun _ => fun
  | [d] => { results := [.lit (.bool false)], args := [d] }
  | _ => none }
def FnExactCompileShapeWrongFalsely : Prop := fnExactCompileShapeRow.holds Try.pinned (OpenSpec.ofChange fnExactCompileShapeWrong)

/- THE SECOND FORM. 'bulk': how many values and letters a reading holds, each counted each time it is reached (what is shared counts as often as it is met; a slice's spare places count too). A statement '..UptoSaid' is the law's where the arguments, and the package variables that the reading takes, are together of bulk at most 1048576: NARROWER than '..Said'. Prove '..Said' where nothing that the law and all that it calls make is longer than what came in: it says more and counts as full. Else prove '..UptoSaid'. A law counts once. -/
mutual
def uptoBulk {H : Type} : DataW H → Nat
  | .lit (.string bytes) => bytes.length + 1
  | .lit _ => 1
  | .nil => 1
  | .ptr d => uptoBulk d + 1
  | .slice elems spare => uptoBulkAll elems + uptoBulkAll spare + 1
  | .agg parts => uptoBulkAll parts + 1
  | .iface _ d => uptoBulk d + 1
  | .map entries => uptoBulkEntries entries + 1
  | .held _ => 1
def uptoBulkAll {H : Type} : List (DataW H) → Nat
  | [] => 0
  | d :: r => uptoBulk d + uptoBulkAll r
def uptoBulkEntries {H : Type} : List (Lit × DataW H) → Nat
  | [] => 0
  | x :: r => uptoBulkEntry x + uptoBulkEntries r
def uptoBulkEntry {H : Type} : Lit × DataW H → Nat
  | (.string bytes, d) => bytes.length + uptoBulk d + 1
  | (_, d) => uptoBulk d + 1
 end
def uptoSmall : (H : Type) → List (DataW H) → Bool := fun _ ds => decide (uptoBulkAll ds ≤ 1048576)
def OpenSpec.upto (s : _root_.Go.ChangeSpec) : _root_.Go.OpenSpec := { _root_.Go.OpenSpec.ofChange s with cond := some uptoSmall }

/-- 'laws.FnExactSameMesh', WHERE WHAT IT READS IS OF BULK AT MOST 1048576: true; the input reads as it did. -/
def fnExactSameMeshUptoRow : OpenClaim := { program := "ytobdbgdgingjjaa", sum := "311c22f7d8e69cc3c6d718d53b24428bc08d3f3f82e99ec11629766b470f51f1", func := "loop.example/g01193/laws.FnExactSameMesh", spec := "fnExactSameMesh", inPlace := ["math.Float32bits"], unfollowed := true, recurses := true, apart := false, narrowed := true }
def FnExactSameMeshUptoSaid : Prop := fnExactSameMeshUptoRow.holds Try.pinned (OpenSpec.upto fnExactSameMeshSpec)

/-- 'laws.FnExactJoinGrids', WHERE WHAT IT READS IS OF BULK AT MOST 1048576: true; the input reads as it did. -/
def fnExactJoinGridsUptoRow : OpenClaim := { program := "ytobdbgdgingjjaa", sum := "311c22f7d8e69cc3c6d718d53b24428bc08d3f3f82e99ec11629766b470f51f1", func := "loop.example/g01193/laws.FnExactJoinGrids", spec := "fnExactJoinGrids", inPlace := ["math.Float32bits"], unfollowed := true, recurses := true, apart := false, narrowed := true }
def FnExactJoinGridsUptoSaid : Prop := fnExactJoinGridsUptoRow.holds Try.pinned (OpenSpec.upto fnExactJoinGridsSpec)

/-- 'laws.FnExactValidDesk', WHERE WHAT IT READS IS OF BULK AT MOST 1048576: true; the input reads as it did. -/
def fnExactValidDeskUptoRow : OpenClaim := { program := "ytobdbgdgingjjaa", sum := "311c22f7d8e69cc3c6d718d53b24428bc08d3f3f82e99ec11629766b470f51f1", func := "loop.example/g01193/laws.FnExactValidDesk", spec := "fnExactValidDesk", unfollowed := true, recurses := true, apart := false, narrowed := true }
def FnExactValidDeskUptoSaid : Prop := fnExactValidDeskUptoRow.holds Try.pinned (OpenSpec.upto fnExactValidDeskSpec)

/-- 'laws.FnExactShapeOfBytes', WHERE WHAT IT READS IS OF BULK AT MOST 1048576: true; the input reads as it did. -/
def fnExactShapeOfBytesUptoRow : OpenClaim := { program := "ytobdbgdgingjjaa", sum := "311c22f7d8e69cc3c6d718d53b24428bc08d3f3f82e99ec11629766b470f51f1", func := "loop.example/g01193/laws.FnExactShapeOfBytes", spec := "fnExactShapeOfBytes", inPlace := ["math.Float32frombits", "math.Float32bits"], unfollowed := true, recurses := true, apart := false, narrowed := true }
def FnExactShapeOfBytesUptoSaid : Prop := fnExactShapeOfBytesUptoRow.holds Try.pinned (OpenSpec.upto fnExactShapeOfBytesSpec)

/-- 'laws.FnExactCompileShape', WHERE WHAT IT READS IS OF BULK AT MOST 1048576: true; the input reads as it did. -/
def fnExactCompileShapeUptoRow : OpenClaim := { program := "ytobdbgdgingjjaa", sum := "311c22f7d8e69cc3c6d718d53b24428bc08d3f3f82e99ec11629766b470f51f1", func := "loop.example/g01193/laws.FnExactCompileShape", spec := "fnExactCompileShape", inPlace := ["math.Float32bits"], unfollowed := true, recurses := true, apart := false, narrowed := true }
def FnExactCompileShapeUptoSaid : Prop := fnExactCompileShapeUptoRow.holds Try.pinned (OpenSpec.upto fnExactCompileShapeSpec)

end Rows
end Go.Proofs.Ytobdbgdgingjjaa
