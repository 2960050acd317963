/-
  No cell of these rows narrows 'for every input' (looked for: loops, veiled, ifaces, maps, wideKeys, modest, calm, conditions, laid).
  DERIVED. THE GIVEN ROWS OF THIS SEAT. 10 by the template 'for every input the law returns true; each argument reads behind the call as it read before'; 0 by the template 'total and deterministic' (their statements: YtkdkcdkjfiabfaaTotals.lean).
  GIVEN WITH THE SEED: the statements are not yours to turn. If you find one false, say at which input.
  Laid BY PROGRAM, IN A SANDBOX (cutbox-rows.mjs): the forced cells as the released guide's own fill.sh prints them over the translation 47ee9452f99a2aa3… (all of the seat's roots in one cut). By AI agents, Wed Nov 11 2026. No macro, syntax, notation, axiom, sorry.
-/
import Derived.Test.YtkdkcdkjfiabfaaChecked
import GoSem.Claim
import GoSem.ClaimJoined
import GoSem.ClaimMapViews
import Derived.JoinedTies
import Derived.KernelRfl
namespace Go.Proofs.Ytkdkcdkjfiabfaa
/- THE CELL 'sum', in the pinned program and in every row, IS THE sha256 OF THE DUMP (.gsa) THAT YtkdkcdkjfiabfaaProg.lean LOADS. Nothing in Lean hashes anything: it is a label: what it is worth is what the hold of that sum in a sandbox is worth. -/
noncomputable def Try.pinned : Pinned := { name := "ytkdkcdkjfiabfaa", sum := "47ee9452f99a2aa3951b884d7e58595c1bd89b645e859b1db7df090c46fce1a9", checked := Try.checked }
namespace Rows
def none {H : Type} : Left H := { results := [], args := [] }

/-- 'laws.FnSums': WHATEVER THE INPUT: true; the input reads as it did. -/
def fnSumsSpec : ChangeSpec := { name := "fnSums", fn := fun _ => fun
  | [d1, d2] => { results := [.lit (.bool true)], args := [d1, d2] }
  | _ => none }
def fnSumsRow : OpenClaim := { program := "ytkdkcdkjfiabfaa", sum := "47ee9452f99a2aa3951b884d7e58595c1bd89b645e859b1db7df090c46fce1a9", func := "loop.example/g01193/laws.FnSums", spec := "fnSums", inPlace := ["math.Float32frombits", "math.Float32bits"], recurses := true, apart := false }
def FnSumsSaid : Prop := fnSumsRow.holds Try.pinned (OpenSpec.ofChange fnSumsSpec)

/-- ITS FALSE NEIGHBOUR: 'it returns false'. Refute it at one input. -/
def fnSumsWrong : ChangeSpec := { name := "fnSums", fn := fun _ => fun
  | [d1, d2] => { results := [.lit (.bool false)], args := [d1, d2] }
  | _ => none }
def FnSumsWrongFalsely : Prop := fnSumsRow.holds Try.pinned (OpenSpec.ofChange fnSumsWrong)

/-- 'laws.FnSwept': WHATEVER THE INPUT: true; the input reads as it did. -/
def fnSweptSpec : ChangeSpec := { name := "fnSwept", fn := fun _ => fun
  | [d1, d2] => { results := [.lit (.bool true)], args := [d1, d2] }
  | _ => none }
def fnSweptRow : OpenClaim := { program := "ytkdkcdkjfiabfaa", sum := "47ee9452f99a2aa3951b884d7e58595c1bd89b645e859b1db7df090c46fce1a9", func := "loop.example/g01193/laws.FnSwept", spec := "fnSwept", inPlace := ["math.Float32frombits", "math.Float32bits"], unfollowed := true, recurses := true, apart := false }
def FnSweptSaid : Prop := fnSweptRow.holds Try.pinned (OpenSpec.ofChange fnSweptSpec)

/-- ITS FALSE NEIGHBOUR: 'it returns false'. Refute it at one input. -/
def fnSweptWrong : ChangeSpec := { name := "fnSwept", fn := fun _ => fun
  | [d1, d2] => { results := [.lit (.bool false)], args := [d1, d2] }
  | _ => none }
def FnSweptWrongFalsely : Prop := fnSweptRow.holds Try.pinned (OpenSpec.ofChange fnSweptWrong)

/-- 'laws.FnBallsParted': WHATEVER THE INPUT: true; the input reads as it did. -/
def fnBallsPartedSpec : ChangeSpec := { name := "fnBallsParted", fn := fun _ => fun
  | [d1, d2] => { results := [.lit (.bool true)], args := [d1, d2] }
  | _ => none }
def fnBallsPartedRow : OpenClaim := { program := "ytkdkcdkjfiabfaa", sum := "47ee9452f99a2aa3951b884d7e58595c1bd89b645e859b1db7df090c46fce1a9", func := "loop.example/g01193/laws.FnBallsParted", spec := "fnBallsParted", inPlace := ["math.sqrt"], unfollowed := true, recurses := true, apart := false }
def FnBallsPartedSaid : Prop := fnBallsPartedRow.holds Try.pinned (OpenSpec.ofChange fnBallsPartedSpec)

/-- ITS FALSE NEIGHBOUR: 'it returns false'. Refute it at one input. -/
def fnBallsPartedWrong : ChangeSpec := { name := "fnBallsParted", fn := fun _ => fun
  | [d1, d2] => { results := [.lit (.bool false)], args := [d1, d2] }
  | _ => none }
def FnBallsPartedWrongFalsely : Prop := fnBallsPartedRow.holds Try.pinned (OpenSpec.ofChange fnBallsPartedWrong)

/-- 'laws.FnInside': WHATEVER THE INPUT: true; the input reads as it did. -/
def fnInsideSpec : ChangeSpec := { name := "fnInside", fn := fun _ => fun
  | [d1, d2] => { results := [.lit (.bool true)], args := [d1, d2] }
  | _ => none }
def fnInsideRow : OpenClaim := { program := "ytkdkcdkjfiabfaa", sum := "47ee9452f99a2aa3951b884d7e58595c1bd89b645e859b1db7df090c46fce1a9", func := "loop.example/g01193/laws.FnInside", spec := "fnInside", inPlace := ["math.Float32frombits"], unfollowed := true, recurses := true, apart := false }
def FnInsideSaid : Prop := fnInsideRow.holds Try.pinned (OpenSpec.ofChange fnInsideSpec)

/-- ITS FALSE NEIGHBOUR: 'it returns false'. Refute it at one input. -/
def fnInsideWrong : ChangeSpec := { name := "fnInside", fn := fun _ => fun
  | [d1, d2] => { results := [.lit (.bool false)], args := [d1, d2] }
  | _ => none }
def FnInsideWrongFalsely : Prop := fnInsideRow.holds Try.pinned (OpenSpec.ofChange fnInsideWrong)

/-- 'laws.FnBoxes': WHATEVER THE INPUT: true; the input reads as it did. -/
def fnBoxesSpec : ChangeSpec := { name := "fnBoxes", fn := fun _ => fun
  | [d1, d2] => { results := [.lit (.bool true)], args := [d1, d2] }
  | _ => none }
def fnBoxesRow : OpenClaim := { program := "ytkdkcdkjfiabfaa", sum := "47ee9452f99a2aa3951b884d7e58595c1bd89b645e859b1db7df090c46fce1a9", func := "loop.example/g01193/laws.FnBoxes", spec := "fnBoxes", inPlace := ["math.sqrt"], unfollowed := true, recurses := true, apart := false }
def FnBoxesSaid : Prop := fnBoxesRow.holds Try.pinned (OpenSpec.ofChange fnBoxesSpec)

/-- ITS FALSE NEIGHBOUR: 'it returns false'. Refute it at one input. -/
def fnBoxesWrong : ChangeSpec := { name := "fnBoxes", fn := fun _ => fun
  | [d1, d2] => { results := [.lit (.bool false)], args := [d1, d2] }
  | _ => none }
def FnBoxesWrongFalsely : Prop := fnBoxesRow.holds Try.pinned (OpenSpec.ofChange fnBoxesWrong)

/-- 'laws.FnAngles': WHATEVER THE INPUT: true; the input reads as it did. -/
def fnAnglesSpec : ChangeSpec := { name := "fnAngles", fn := fun _ => fun
  | [d1, d2] => { results := [.lit (.bool true)], args := [d1, d2] }
  | _ => none }
def fnAnglesRow : OpenClaim := { program := "ytkdkcdkjfiabfaa", sum := "47ee9452f99a2aa3951b884d7e58595c1bd89b645e859b1db7df090c46fce1a9", func := "loop.example/g01193/laws.FnAngles", spec := "fnAngles", inPlace := ["math.Float64frombits", "math.Float64bits", "math.sqrt", "math.archTrunc", "math.Float32frombits", "math.Float32bits"], unfollowed := true, recurses := true, apart := false }
def FnAnglesSaid : Prop := fnAnglesRow.holds Try.pinned (OpenSpec.ofChange fnAnglesSpec)

/-- ITS FALSE NEIGHBOUR: 'it returns false'. Refute it at one input. -/
def fnAnglesWrong : ChangeSpec := { name := "fnAngles", fn := fun _ => fun
  | [d1, d2] => { results := [.lit (.bool false)], args := [d1, d2] }
  | _ => none }
def FnAnglesWrongFalsely : Prop := fnAnglesRow.holds Try.pinned (OpenSpec.ofChange fnAnglesWrong)

/-- 'laws.FnCameras': WHATEVER THE INPUT: true; the input reads as it did. -/
def fnCamerasSpec : ChangeSpec := { name := "fnCameras", fn := fun _ => fun
  | [d1, d2] => { results := [.lit (.bool true)], args := [d1, d2] }
  | _ => none }
def fnCamerasRow : OpenClaim := { program := "ytkdkcdkjfiabfaa", sum := "47ee9452f99a2aa3951b884d7e58595c1bd89b645e859b1db7df090c46fce1a9", func := "loop.example/g01193/laws.FnCameras", spec := "fnCameras", inPlace := ["math.sqrt", "math.Float32bits"], unfollowed := true, recurses := true, apart := false }
def FnCamerasSaid : Prop := fnCamerasRow.holds Try.pinned (OpenSpec.ofChange fnCamerasSpec)

/-- ITS FALSE NEIGHBOUR: 'it returns false'. Refute it at one input. -/
def fnCamerasWrong : ChangeSpec := { name := "fnCameras", fn := fun _ => fun
  | [d1, d2] => { results := [.lit (.bool false)], args := [d1, d2] }
  | _ => none }
def FnCamerasWrongFalsely : Prop := fnCamerasRow.holds Try.pinned (OpenSpec.ofChange fnCamerasWrong)

/-- 'laws.FnPaths': WHATEVER THE INPUT: true; the input reads as it did. -/
def fnPathsSpec : ChangeSpec := { name := "fnPaths", fn := fun _ => fun
  | [d1, d2] => { results := [.lit (.bool true)], args := [d1, d2] }
  | _ => none }
def fnPathsRow : OpenClaim := { program := "ytkdkcdkjfiabfaa", sum := "47ee9452f99a2aa3951b884d7e58595c1bd89b645e859b1db7df090c46fce1a9", func := "loop.example/g01193/laws.FnPaths", spec := "fnPaths", inPlace := ["math.Float32bits", "math.sqrt"], unfollowed := true, recurses := true, apart := false }
def FnPathsSaid : Prop := fnPathsRow.holds Try.pinned (OpenSpec.ofChange fnPathsSpec)

/-- ITS FALSE NEIGHBOUR: 'it returns false'. Refute it at one input. -/
def fnPathsWrong : ChangeSpec := { name := "fnPaths", fn := fun _ => fun
  | [d1, d2] => { results := [.lit (.bool false)], args := [d1, d2] }
  | _ => none }
def FnPathsWrongFalsely : Prop := fnPathsRow.holds Try.pinned (OpenSpec.ofChange fnPathsWrong)

/-- 'laws.FnStoredScenes': WHATEVER THE INPUT: true; the input reads as it did. -/
def fnStoredScenesSpec : ChangeSpec := { name := "fnStoredScenes", fn := fun _ => fun
  | [d1, d2] => { results := [.lit (.bool true)], args := [d1, d2] }
  | _ => none }
def fnStoredScenesRow : OpenClaim := { program := "ytkdkcdkjfiabfaa", sum := "47ee9452f99a2aa3951b884d7e58595c1bd89b645e859b1db7df090c46fce1a9", func := "loop.example/g01193/laws.FnStoredScenes", spec := "fnStoredScenes", inPlace := ["internal/abi.NoEscape", "math.Float32bits", "math.Float32frombits"], unfollowed := true, recurses := true, apart := false }
def FnStoredScenesSaid : Prop := fnStoredScenesRow.holds Try.pinned (OpenSpec.ofChange fnStoredScenesSpec)

/-- ITS FALSE NEIGHBOUR: 'it returns false'. Refute it at one input. -/
def fnStoredScenesWrong : ChangeSpec := { name := "fnStoredScenes", fn := fun _ => fun
  | [d1, d2] => { results := [.lit (.bool false)], args := [d1, d2] }
  | _ => none }
def FnStoredScenesWrongFalsely : Prop := fnStoredScenesRow.holds Try.pinned (OpenSpec.ofChange fnStoredScenesWrong)

/-- 'laws.FnScenesPut': WHATEVER THE INPUT: true; the input reads as it did. -/
def fnScenesPutSpec : ChangeSpec := { name := "fnScenesPut", fn := fun _ => fun
  | [d1, d2] => { results := [.lit (.bool true)], args := [d1, d2] }
  | _ => none }
def fnScenesPutRow : OpenClaim := { program := "ytkdkcdkjfiabfaa", sum := "47ee9452f99a2aa3951b884d7e58595c1bd89b645e859b1db7df090c46fce1a9", func := "loop.example/g01193/laws.FnScenesPut", spec := "fnScenesPut", inPlace := ["internal/bytealg.abigen_runtime_cmpstring", "slices.overlaps[loop.example/g01193/impl.Thing]", "math.Float32bits"], unfollowed := true, recurses := true, apart := false }
def FnScenesPutSaid : Prop := fnScenesPutRow.holds Try.pinned (OpenSpec.ofChange fnScenesPutSpec)

/-- ITS FALSE NEIGHBOUR: 'it returns false'. Refute it at one input. -/
def fnScenesPutWrong : ChangeSpec := { name := "fnScenesPut", fn := fun _ => fun
  | [d1, d2] => { results := [.lit (.bool false)], args := [d1, d2] }
  | _ => none }
def FnScenesPutWrongFalsely : Prop := fnScenesPutRow.holds Try.pinned (OpenSpec.ofChange fnScenesPutWrong)

/- THE SECOND FORM. 'bulk': how many values and letters a reading holds, each counted each time it is reached (what is shared counts as often as it is met; a slice's spare places count too). A statement '..UptoSaid' is the law's where the arguments, and the package variables that the reading takes, are together of bulk at most 1048576: NARROWER than '..Said'. Prove '..Said' where nothing that the law and all that it calls make is longer than what came in: it says more and counts as full. Else prove '..UptoSaid'. A law counts once. -/
mutual
def uptoBulk {H : Type} : DataW H → Nat
  | .lit (.string bytes) => bytes.length + 1
  | .lit _ => 1
  | .nil => 1
  | .ptr d => uptoBulk d + 1
  | .slice elems spare => uptoBulkAll elems + uptoBulkAll spare + 1
  | .agg parts => uptoBulkAll parts + 1
  | .iface _ d => uptoBulk d + 1
  | .map entries => uptoBulkEntries entries + 1
  | .held _ => 1
def uptoBulkAll {H : Type} : List (DataW H) → Nat
  | [] => 0
  | d :: r => uptoBulk d + uptoBulkAll r
def uptoBulkEntries {H : Type} : List (Lit × DataW H) → Nat
  | [] => 0
  | x :: r => uptoBulkEntry x + uptoBulkEntries r
def uptoBulkEntry {H : Type} : Lit × DataW H → Nat
  | (.string bytes, d) => bytes.length + uptoBulk d + 1
  | (_, d) => uptoBulk d + 1
 end
def uptoSmall : (H : Type) → List (DataW H) → Bool := fun _ ds => decide (uptoBulkAll ds ≤ 1048576)
def OpenSpec.upto (s : _root_.Go.ChangeSpec) : _root_.Go.OpenSpec := { _root_.Go.OpenSpec.ofChange s with cond := some uptoSmall }

/-- 'laws.FnSums', WHERE WHAT IT READS IS OF BULK AT MOST 1048576: true; the input reads as it did. -/
def fnSumsUptoRow : OpenClaim := { program := "ytkdkcdkjfiabfaa", sum := "47ee9452f99a2aa3951b884d7e58595c1bd89b645e859b1db7df090c46fce1a9", func := "loop.example/g01193/laws.FnSums", spec := "fnSums", inPlace := ["math.Float32frombits", "math.Float32bits"], recurses := true, apart := false, narrowed := true }
def FnSumsUptoSaid : Prop := fnSumsUptoRow.holds Try.pinned (OpenSpec.upto fnSumsSpec)

/-- 'laws.FnSwept', WHERE WHAT IT READS IS OF BULK AT MOST 1048576: true; the input reads as it did. -/
def fnSweptUptoRow : OpenClaim := { program := "ytkdkcdkjfiabfaa", sum := "47ee9452f99a2aa3951b884d7e58595c1bd89b645e859b1db7df090c46fce1a9", func := "loop.example/g01193/laws.FnSwept", spec := "fnSwept", inPlace := ["math.Float32frombits", "math.Float32bits"], unfollowed := true, recurses := true, apart := false, narrowed := true }
def FnSweptUptoSaid : Prop := fnSweptUptoRow.holds Try.pinned (OpenSpec.upto fnSweptSpec)

/-- 'laws.FnBallsParted', WHERE WHAT IT READS IS OF BULK AT MOST 1048576: true; the input reads as it did. -/
def fnBallsPartedUptoRow : OpenClaim := { program := "ytkdkcdkjfiabfaa", sum := "47ee9452f99a2aa3951b884d7e58595c1bd89b645e859b1db7df090c46fce1a9", func := "loop.example/g01193/laws.FnBallsParted", spec := "fnBallsParted", inPlace := ["math.sqrt"], unfollowed := true, recurses := true, apart := false, narrowed := true }
def FnBallsPartedUptoSaid : Prop := fnBallsPartedUptoRow.holds Try.pinned (OpenSpec.upto fnBallsPartedSpec)

/-- 'laws.FnInside', WHERE WHAT IT READS IS OF BULK AT MOST 1048576: true; the input reads as it did. -/
def fnInsideUptoRow : OpenClaim := { program := "ytkdkcdkjfiabfaa", sum := "47ee9452f99a2aa3951b884d7e58595c1bd89b645e859b1db7df090c46fce1a9", func := "loop.example/g01193/laws.FnInside", spec := "fnInside", inPlace := ["math.Float32frombits"], unfollowed := true, recurses := true, apart := false, narrowed := true }
def FnInsideUptoSaid : Prop := fnInsideUptoRow.holds Try.pinned (OpenSpec.upto fnInsideSpec)

/-- 'laws.FnBoxes', WHERE WHAT IT READS IS OF BULK AT MOST 1048576: true; the input reads as it did. -/
def fnBoxesUptoRow : OpenClaim := { program := "ytkdkcdkjfiabfaa", sum := "47ee9452f99a2aa3951b884d7e58595c1bd89b645e859b1db7df090c46fce1a9", func := "loop.example/g01193/laws.FnBoxes", spec := "fnBoxes", inPlace := ["math.sqrt"], unfollowed := true, recurses := true, apart := false, narrowed := true }
def FnBoxesUptoSaid : Prop := fnBoxesUptoRow.holds Try.pinned (OpenSpec.upto fnBoxesSpec)

/-- 'laws.FnAngles', WHERE WHAT IT READS IS OF BULK AT MOST 1048576: true; the input reads as it did. -/
def fnAnglesUptoRow : OpenClaim := { program := "ytkdkcdkjfiabfaa", sum := "47ee9452f99a2aa3951b884d7e58595c1bd89b645e859b1db7df090c46fce1a9", func := "loop.example/g01193/laws.FnAngles", spec := "fnAngles", inPlace := ["math.Float64frombits", "math.Float64bits", "math.sqrt", "math.archTrunc", "math.Float32frombits", "math.Float32bits"], unfollowed := true, recurses := true, apart := false, narrowed := true }
def FnAnglesUptoSaid : Prop := fnAnglesUptoRow.holds Try.pinned (OpenSpec.upto fnAnglesSpec)

/-- 'laws.FnCameras', WHERE WHAT IT READS IS OF BULK AT MOST 1048576: true; the input reads as it did. -/
def fnCamerasUptoRow : OpenClaim := { program := "ytkdkcdkjfiabfaa", sum := "47ee9452f99a2aa3951b884d7e58595c1bd89b645e859b1db7df090c46fce1a9", func := "loop.example/g01193/laws.FnCameras", spec := "fnCameras", inPlace := ["math.sqrt", "math.Float32bits"], unfollowed := true, recurses := true, apart := false, narrowed := true }
def FnCamerasUptoSaid : Prop := fnCamerasUptoRow.holds Try.pinned (OpenSpec.upto fnCamerasSpec)

/-- 'laws.FnPaths', WHERE WHAT IT READS IS OF BULK AT MOST 1048576: true; the input reads as it did. -/
def fnPathsUptoRow : OpenClaim := { program := "ytkdkcdkjfiabfaa", sum := "47ee9452f99a2aa3951b884d7e58595c1bd89b645e859b1db7df090c46fce1a9", func := "loop.example/g01193/laws.FnPaths", spec := "fnPaths", inPlace := ["math.Float32bits", "math.sqrt"], unfollowed := true, recurses := true, apart := false, narrowed := true }
def FnPathsUptoSaid : Prop := fnPathsUptoRow.holds Try.pinned (OpenSpec.upto fnPathsSpec)

/-- 'laws.FnStoredScenes', WHERE WHAT IT READS IS OF BULK AT MOST 1048576: true; the input reads as it did. -/
def fnStoredScenesUptoRow : OpenClaim := { program := "ytkdkcdkjfiabfaa", sum := "47ee9452f99a2aa3951b884d7e58595c1bd89b645e859b1db7df090c46fce1a9", func := "loop.example/g01193/laws.FnStoredScenes", spec := "fnStoredScenes", inPlace := ["internal/abi.NoEscape", "math.Float32bits", "math.Float32frombits"], unfollowed := true, recurses := true, apart := false, narrowed := true }
def FnStoredScenesUptoSaid : Prop := fnStoredScenesUptoRow.holds Try.pinned (OpenSpec.upto fnStoredScenesSpec)

/-- 'laws.FnScenesPut', WHERE WHAT IT READS IS OF BULK AT MOST 1048576: true; the input reads as it did. -/
def fnScenesPutUptoRow : OpenClaim := { program := "ytkdkcdkjfiabfaa", sum := "47ee9452f99a2aa3951b884d7e58595c1bd89b645e859b1db7df090c46fce1a9", func := "loop.example/g01193/laws.FnScenesPut", spec := "fnScenesPut", inPlace := ["internal/bytealg.abigen_runtime_cmpstring", "slices.overlaps[loop.example/g01193/impl.Thing]", "math.Float32bits"], unfollowed := true, recurses := true, apart := false, narrowed := true }
def FnScenesPutUptoSaid : Prop := fnScenesPutUptoRow.holds Try.pinned (OpenSpec.upto fnScenesPutSpec)

end Rows
end Go.Proofs.Ytkdkcdkjfiabfaa
