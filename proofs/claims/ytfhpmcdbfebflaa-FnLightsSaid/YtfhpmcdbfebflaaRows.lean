/-
  No cell of these rows narrows 'for every input' (looked for: loops, veiled, ifaces, maps, wideKeys, modest, calm, conditions, laid).
  DERIVED. THE GIVEN ROWS OF THIS SEAT. 9 by the template 'for every input the law returns true; each argument reads behind the call as it read before'; 0 by the template 'total and deterministic' (their statements: YtfhpmcdbfebflaaTotals.lean).
  GIVEN WITH THE SEED: the statements are not yours to turn. If you find one false, say at which input.
  Laid BY PROGRAM, IN A SANDBOX (cutbox-rows.mjs): the forced cells as the released guide's own fill.sh prints them over the translation 69c277edcf83a99e… (all of the seat's roots in one cut). By AI agents, Wed Nov 11 2026. No macro, syntax, notation, axiom, sorry.
-/
import Derived.Test.YtfhpmcdbfebflaaChecked
import GoSem.Claim
import GoSem.ClaimJoined
import GoSem.ClaimMapViews
import Derived.JoinedTies
import Derived.KernelRfl
namespace Go.Proofs.Ytfhpmcdbfebflaa
/- THE CELL 'sum', in the pinned program and in every row, IS THE sha256 OF THE DUMP (.gsa) THAT YtfhpmcdbfebflaaProg.lean LOADS. Nothing in Lean hashes anything: it is a label: what it is worth is what the hold of that sum in a sandbox is worth. -/
noncomputable def Try.pinned : Pinned := { name := "ytfhpmcdbfebflaa", sum := "69c277edcf83a99eb28ae2ec7a4291a55b11c010e59edc542b3d525a5065c77c", checked := Try.checked }
namespace Rows
def none {H : Type} : Left H := { results := [], args := [] }

/-- 'laws.FnMarches': WHATEVER THE INPUT: true; the input reads as it did. -/
def fnMarchesSpec : ChangeSpec := { name := "fnMarches", fn := fun _ => fun
  | [d1, d2] => { results := [.lit (.bool true)], args := [d1, d2] }
  | _ => none }
def fnMarchesRow : OpenClaim := { program := "ytfhpmcdbfebflaa", sum := "69c277edcf83a99eb28ae2ec7a4291a55b11c010e59edc542b3d525a5065c77c", func := "loop.example/g01193/laws.FnMarches", spec := "fnMarches", inPlace := ["math.sqrt", "math.Float64frombits", "math.Float64bits", "math.archTrunc", "math.RoundToEven", "math.Float32bits"], unfollowed := true, recurses := true, apart := false }
def FnMarchesSaid : Prop := fnMarchesRow.holds Try.pinned (OpenSpec.ofChange fnMarchesSpec)

/-- ITS FALSE NEIGHBOUR: 'it returns false'. Refute it at one input. -/
def fnMarchesWrong : ChangeSpec := { name := "fnMarches", fn := fun _ => fun
  | [d1, d2] => { results := [.lit (.bool false)], args := [d1, d2] }
  | _ => none }
def FnMarchesWrongFalsely : Prop := fnMarchesRow.holds Try.pinned (OpenSpec.ofChange fnMarchesWrong)

/-- 'laws.FnLeaves': WHATEVER THE INPUT: true; the input reads as it did. -/
def fnLeavesSpec : ChangeSpec := { name := "fnLeaves", fn := fun _ => fun
  | [d1, d2] => { results := [.lit (.bool true)], args := [d1, d2] }
  | _ => none }
def fnLeavesRow : OpenClaim := { program := "ytfhpmcdbfebflaa", sum := "69c277edcf83a99eb28ae2ec7a4291a55b11c010e59edc542b3d525a5065c77c", func := "loop.example/g01193/laws.FnLeaves", spec := "fnLeaves", inPlace := ["math.Float64frombits", "math.Float64bits", "math.archTrunc", "math.RoundToEven", "math.sqrt", "math.Float32bits"], unfollowed := true, recurses := true, apart := false }
def FnLeavesSaid : Prop := fnLeavesRow.holds Try.pinned (OpenSpec.ofChange fnLeavesSpec)

/-- ITS FALSE NEIGHBOUR: 'it returns false'. Refute it at one input. -/
def fnLeavesWrong : ChangeSpec := { name := "fnLeaves", fn := fun _ => fun
  | [d1, d2] => { results := [.lit (.bool false)], args := [d1, d2] }
  | _ => none }
def FnLeavesWrongFalsely : Prop := fnLeavesRow.holds Try.pinned (OpenSpec.ofChange fnLeavesWrong)

/-- 'laws.FnSigns': WHATEVER THE INPUT: true; the input reads as it did. -/
def fnSignsSpec : ChangeSpec := { name := "fnSigns", fn := fun _ => fun
  | [d1, d2] => { results := [.lit (.bool true)], args := [d1, d2] }
  | _ => none }
def fnSignsRow : OpenClaim := { program := "ytfhpmcdbfebflaa", sum := "69c277edcf83a99eb28ae2ec7a4291a55b11c010e59edc542b3d525a5065c77c", func := "loop.example/g01193/laws.FnSigns", spec := "fnSigns", inPlace := ["math.sqrt", "math.Float64frombits", "math.Float64bits", "math.archTrunc", "math.RoundToEven"], unfollowed := true, recurses := true, apart := false }
def FnSignsSaid : Prop := fnSignsRow.holds Try.pinned (OpenSpec.ofChange fnSignsSpec)

/-- ITS FALSE NEIGHBOUR: 'it returns false'. Refute it at one input. -/
def fnSignsWrong : ChangeSpec := { name := "fnSigns", fn := fun _ => fun
  | [d1, d2] => { results := [.lit (.bool false)], args := [d1, d2] }
  | _ => none }
def FnSignsWrongFalsely : Prop := fnSignsRow.holds Try.pinned (OpenSpec.ofChange fnSignsWrong)

/-- 'laws.FnBuilt': WHATEVER THE INPUT: true; the input reads as it did. -/
def fnBuiltSpec : ChangeSpec := { name := "fnBuilt", fn := fun _ => fun
  | [d1, d2] => { results := [.lit (.bool true)], args := [d1, d2] }
  | _ => none }
def fnBuiltRow : OpenClaim := { program := "ytfhpmcdbfebflaa", sum := "69c277edcf83a99eb28ae2ec7a4291a55b11c010e59edc542b3d525a5065c77c", func := "loop.example/g01193/laws.FnBuilt", spec := "fnBuilt", inPlace := ["math.sqrt", "math.Float64frombits", "math.Float64bits", "math.archTrunc", "math.RoundToEven", "math.Float32bits"], unfollowed := true, recurses := true, apart := false }
def FnBuiltSaid : Prop := fnBuiltRow.holds Try.pinned (OpenSpec.ofChange fnBuiltSpec)

/-- ITS FALSE NEIGHBOUR: 'it returns false'. Refute it at one input. -/
def fnBuiltWrong : ChangeSpec := { name := "fnBuilt", fn := fun _ => fun
  | [d1, d2] => { results := [.lit (.bool false)], args := [d1, d2] }
  | _ => none }
def FnBuiltWrongFalsely : Prop := fnBuiltRow.holds Try.pinned (OpenSpec.ofChange fnBuiltWrong)

/-- 'laws.FnBalls': WHATEVER THE INPUT: true; the input reads as it did. -/
def fnBallsSpec : ChangeSpec := { name := "fnBalls", fn := fun _ => fun
  | [d1, d2] => { results := [.lit (.bool true)], args := [d1, d2] }
  | _ => none }
def fnBallsRow : OpenClaim := { program := "ytfhpmcdbfebflaa", sum := "69c277edcf83a99eb28ae2ec7a4291a55b11c010e59edc542b3d525a5065c77c", func := "loop.example/g01193/laws.FnBalls", spec := "fnBalls", inPlace := ["math.sqrt", "math.Float64frombits", "math.Float64bits", "math.archTrunc", "math.RoundToEven"], unfollowed := true, recurses := true, apart := false }
def FnBallsSaid : Prop := fnBallsRow.holds Try.pinned (OpenSpec.ofChange fnBallsSpec)

/-- ITS FALSE NEIGHBOUR: 'it returns false'. Refute it at one input. -/
def fnBallsWrong : ChangeSpec := { name := "fnBalls", fn := fun _ => fun
  | [d1, d2] => { results := [.lit (.bool false)], args := [d1, d2] }
  | _ => none }
def FnBallsWrongFalsely : Prop := fnBallsRow.holds Try.pinned (OpenSpec.ofChange fnBallsWrong)

/-- 'laws.FnLines': WHATEVER THE INPUT: true; the input reads as it did. -/
def fnLinesSpec : ChangeSpec := { name := "fnLines", fn := fun _ => fun
  | [d1, d2] => { results := [.lit (.bool true)], args := [d1, d2] }
  | _ => none }
def fnLinesRow : OpenClaim := { program := "ytfhpmcdbfebflaa", sum := "69c277edcf83a99eb28ae2ec7a4291a55b11c010e59edc542b3d525a5065c77c", func := "loop.example/g01193/laws.FnLines", spec := "fnLines", inPlace := ["math.sqrt", "math.Float64frombits", "math.Float64bits", "math.archTrunc", "math.RoundToEven"], unfollowed := true, recurses := true, apart := false }
def FnLinesSaid : Prop := fnLinesRow.holds Try.pinned (OpenSpec.ofChange fnLinesSpec)

/-- ITS FALSE NEIGHBOUR: 'it returns false'. Refute it at one input. -/
def fnLinesWrong : ChangeSpec := { name := "fnLines", fn := fun _ => fun
  | [d1, d2] => { results := [.lit (.bool false)], args := [d1, d2] }
  | _ => none }
def FnLinesWrongFalsely : Prop := fnLinesRow.holds Try.pinned (OpenSpec.ofChange fnLinesWrong)

/-- 'laws.FnLights': WHATEVER THE INPUT: true; the input reads as it did. -/
def fnLightsSpec : ChangeSpec := { name := "fnLights", fn := fun _ => fun
  | [d1, d2] => { results := [.lit (.bool true)], args := [d1, d2] }
  | _ => none }
def fnLightsRow : OpenClaim := { program := "ytfhpmcdbfebflaa", sum := "69c277edcf83a99eb28ae2ec7a4291a55b11c010e59edc542b3d525a5065c77c", func := "loop.example/g01193/laws.FnLights", spec := "fnLights", inPlace := ["math.sqrt", "math.Float64frombits", "math.Float64bits", "math.archTrunc", "math.RoundToEven", "math.Float32frombits"], unfollowed := true, recurses := true, apart := false }
def FnLightsSaid : Prop := fnLightsRow.holds Try.pinned (OpenSpec.ofChange fnLightsSpec)

/-- ITS FALSE NEIGHBOUR: 'it returns false'. Refute it at one input. -/
def fnLightsWrong : ChangeSpec := { name := "fnLights", fn := fun _ => fun
  | [d1, d2] => { results := [.lit (.bool false)], args := [d1, d2] }
  | _ => none }
def FnLightsWrongFalsely : Prop := fnLightsRow.holds Try.pinned (OpenSpec.ofChange fnLightsWrong)

/-- 'laws.FnPushed': WHATEVER THE INPUT: true; the input reads as it did. -/
def fnPushedSpec : ChangeSpec := { name := "fnPushed", fn := fun _ => fun
  | [d1, d2] => { results := [.lit (.bool true)], args := [d1, d2] }
  | _ => none }
def fnPushedRow : OpenClaim := { program := "ytfhpmcdbfebflaa", sum := "69c277edcf83a99eb28ae2ec7a4291a55b11c010e59edc542b3d525a5065c77c", func := "loop.example/g01193/laws.FnPushed", spec := "fnPushed", inPlace := ["math.sqrt", "math.Float64frombits", "math.Float64bits", "math.archTrunc", "math.RoundToEven"], unfollowed := true, recurses := true, apart := false }
def FnPushedSaid : Prop := fnPushedRow.holds Try.pinned (OpenSpec.ofChange fnPushedSpec)

/-- ITS FALSE NEIGHBOUR: 'it returns false'. Refute it at one input. -/
def fnPushedWrong : ChangeSpec := { name := "fnPushed", fn := fun _ => fun
  | [d1, d2] => { results := [.lit (.bool false)], args := [d1, d2] }
  | _ => none }
def FnPushedWrongFalsely : Prop := fnPushedRow.holds Try.pinned (OpenSpec.ofChange fnPushedWrong)

/-- 'laws.FnDrops': WHATEVER THE INPUT: true; the input reads as it did. -/
def fnDropsSpec : ChangeSpec := { name := "fnDrops", fn := fun _ => fun
  | [d1, d2] => { results := [.lit (.bool true)], args := [d1, d2] }
  | _ => none }
def fnDropsRow : OpenClaim := { program := "ytfhpmcdbfebflaa", sum := "69c277edcf83a99eb28ae2ec7a4291a55b11c010e59edc542b3d525a5065c77c", func := "loop.example/g01193/laws.FnDrops", spec := "fnDrops", inPlace := ["math.sqrt", "math.Float64frombits", "math.Float64bits", "math.archTrunc", "math.RoundToEven", "math.Float32bits"], unfollowed := true, recurses := true, apart := false }
def FnDropsSaid : Prop := fnDropsRow.holds Try.pinned (OpenSpec.ofChange fnDropsSpec)

/-- ITS FALSE NEIGHBOUR: 'it returns false'. Refute it at one input. -/
def fnDropsWrong : ChangeSpec := { name := "fnDrops", fn := fun _ => fun
  | [d1, d2] => { results := [.lit (.bool false)], args := [d1, d2] }
  | _ => none }
def FnDropsWrongFalsely : Prop := fnDropsRow.holds Try.pinned (OpenSpec.ofChange fnDropsWrong)

/- THE SECOND FORM. 'bulk': how many values and letters a reading holds, each counted each time it is reached (what is shared counts as often as it is met; a slice's spare places count too). A statement '..UptoSaid' is the law's where the arguments, and the package variables that the reading takes, are together of bulk at most 1048576: NARROWER than '..Said'. Prove '..Said' where nothing that the law and all that it calls make is longer than what came in: it says more and counts as full. Else prove '..UptoSaid'. A law counts once. -/
mutual
def uptoBulk {H : Type} : DataW H → Nat
  | .lit (.string bytes) => bytes.length + 1
  | .lit _ => 1
  | .nil => 1
  | .ptr d => uptoBulk d + 1
  | .slice elems spare => uptoBulkAll elems + uptoBulkAll spare + 1
  | .agg parts => uptoBulkAll parts + 1
  | .iface _ d => uptoBulk d + 1
  | .map entries => uptoBulkEntries entries + 1
  | .held _ => 1
def uptoBulkAll {H : Type} : List (DataW H) → Nat
  | [] => 0
  | d :: r => uptoBulk d + uptoBulkAll r
def uptoBulkEntries {H : Type} : List (Lit × DataW H) → Nat
  | [] => 0
  | x :: r => uptoBulkEntry x + uptoBulkEntries r
def uptoBulkEntry {H : Type} : Lit × DataW H → Nat
  | (.string bytes, d) => bytes.length + uptoBulk d + 1
  | (_, d) => uptoBulk d + 1
 end
def uptoSmall : (H : Type) → List (DataW H) → Bool := fun _ ds => decide (uptoBulkAll ds ≤ 1048576)
def OpenSpec.upto (s : _root_.Go.ChangeSpec) : _root_.Go.OpenSpec := { _root_.Go.OpenSpec.ofChange s with cond := some uptoSmall }

/-- 'laws.FnMarches', WHERE WHAT IT READS IS OF BULK AT MOST 1048576: true; the input reads as it did. -/
def fnMarchesUptoRow : OpenClaim := { program := "ytfhpmcdbfebflaa", sum := "69c277edcf83a99eb28ae2ec7a4291a55b11c010e59edc542b3d525a5065c77c", func := "loop.example/g01193/laws.FnMarches", spec := "fnMarches", inPlace := ["math.sqrt", "math.Float64frombits", "math.Float64bits", "math.archTrunc", "math.RoundToEven", "math.Float32bits"], unfollowed := true, recurses := true, apart := false, narrowed := true }
def FnMarchesUptoSaid : Prop := fnMarchesUptoRow.holds Try.pinned (OpenSpec.upto fnMarchesSpec)

/-- 'laws.FnLeaves', WHERE WHAT IT READS IS OF BULK AT MOST 1048576: true; the input reads as it did. -/
def fnLeavesUptoRow : OpenClaim := { program := "ytfhpmcdbfebflaa", sum := "69c277edcf83a99eb28ae2ec7a4291a55b11c010e59edc542b3d525a5065c77c", func := "loop.example/g01193/laws.FnLeaves", spec := "fnLeaves", inPlace := ["math.Float64frombits", "math.Float64bits", "math.archTrunc", "math.RoundToEven", "math.sqrt", "math.Float32bits"], unfollowed := true, recurses := true, apart := false, narrowed := true }
def FnLeavesUptoSaid : Prop := fnLeavesUptoRow.holds Try.pinned (OpenSpec.upto fnLeavesSpec)

/-- 'laws.FnSigns', WHERE WHAT IT READS IS OF BULK AT MOST 1048576: true; the input reads as it did. -/
def fnSignsUptoRow : OpenClaim := { program := "ytfhpmcdbfebflaa", sum := "69c277edcf83a99eb28ae2ec7a4291a55b11c010e59edc542b3d525a5065c77c", func := "loop.example/g01193/laws.FnSigns", spec := "fnSigns", inPlace := ["math.sqrt", "math.Float64frombits", "math.Float64bits", "math.archTrunc", "math.RoundToEven"], unfollowed := true, recurses := true, apart := false, narrowed := true }
def FnSignsUptoSaid : Prop := fnSignsUptoRow.holds Try.pinned (OpenSpec.upto fnSignsSpec)

/-- 'laws.FnBuilt', WHERE WHAT IT READS IS OF BULK AT MOST 1048576: true; the input reads as it did. -/
def fnBuiltUptoRow : OpenClaim := { program := "ytfhpmcdbfebflaa", sum := "69c277edcf83a99eb28ae2ec7a4291a55b11c010e59edc542b3d525a5065c77c", func := "loop.example/g01193/laws.FnBuilt", spec := "fnBuilt", inPlace := ["math.sqrt", "math.Float64frombits", "math.Float64bits", "math.archTrunc", "math.RoundToEven", "math.Float32bits"], unfollowed := true, recurses := true, apart := false, narrowed := true }
def FnBuiltUptoSaid : Prop := fnBuiltUptoRow.holds Try.pinned (OpenSpec.upto fnBuiltSpec)

/-- 'laws.FnBalls', WHERE WHAT IT READS IS OF BULK AT MOST 1048576: true; the input reads as it did. -/
def fnBallsUptoRow : OpenClaim := { program := "ytfhpmcdbfebflaa", sum := "69c277edcf83a99eb28ae2ec7a4291a55b11c010e59edc542b3d525a5065c77c", func := "loop.example/g01193/laws.FnBalls", spec := "fnBalls", inPlace := ["math.sqrt", "math.Float64frombits", "math.Float64bits", "math.archTrunc", "math.RoundToEven"], unfollowed := true, recurses := true, apart := false, narrowed := true }
def FnBallsUptoSaid : Prop := fnBallsUptoRow.holds Try.pinned (OpenSpec.upto fnBallsSpec)

/-- 'laws.FnLines', WHERE WHAT IT READS IS OF BULK AT MOST 1048576: true; the input reads as it did. -/
def fnLinesUptoRow : OpenClaim := { program := "ytfhpmcdbfebflaa", sum := "69c277edcf83a99eb28ae2ec7a4291a55b11c010e59edc542b3d525a5065c77c", func := "loop.example/g01193/laws.FnLines", spec := "fnLines", inPlace := ["math.sqrt", "math.Float64frombits", "math.Float64bits", "math.archTrunc", "math.RoundToEven"], unfollowed := true, recurses := true, apart := false, narrowed := true }
def FnLinesUptoSaid : Prop := fnLinesUptoRow.holds Try.pinned (OpenSpec.upto fnLinesSpec)

/-- 'laws.FnLights', WHERE WHAT IT READS IS OF BULK AT MOST 1048576: true; the input reads as it did. -/
def fnLightsUptoRow : OpenClaim := { program := "ytfhpmcdbfebflaa", sum := "69c277edcf83a99eb28ae2ec7a4291a55b11c010e59edc542b3d525a5065c77c", func := "loop.example/g01193/laws.FnLights", spec := "fnLights", inPlace := ["math.sqrt", "math.Float64frombits", "math.Float64bits", "math.archTrunc", "math.RoundToEven", "math.Float32frombits"], unfollowed := true, recurses := true, apart := false, narrowed := true }
def FnLightsUptoSaid : Prop := fnLightsUptoRow.holds Try.pinned (OpenSpec.upto fnLightsSpec)

/-- 'laws.FnPushed', WHERE WHAT IT READS IS OF BULK AT MOST 1048576: true; the input reads as it did. -/
def fnPushedUptoRow : OpenClaim := { program := "ytfhpmcdbfebflaa", sum := "69c277edcf83a99eb28ae2ec7a4291a55b11c010e59edc542b3d525a5065c77c", func := "loop.example/g01193/laws.FnPushed", spec := "fnPushed", inPlace := ["math.sqrt", "math.Float64frombits", "math.Float64bits", "math.archTrunc", "math.RoundToEven"], unfollowed := true, recurses := true, apart := false, narrowed := true }
def FnPushedUptoSaid : Prop := fnPushedUptoRow.holds Try.pinned (OpenSpec.upto fnPushedSpec)

/-- 'laws.FnDrops', WHERE WHAT IT READS IS OF BULK AT MOST 1048576: true; the input reads as it did. -/
def fnDropsUptoRow : OpenClaim := { program := "ytfhpmcdbfebflaa", sum := "69c277edcf83a99eb28ae2ec7a4291a55b11c010e59edc542b3d525a5065c77c", func := "loop.example/g01193/laws.FnDrops", spec := "fnDrops", inPlace := ["math.sqrt", "math.Float64frombits", "math.Float64bits", "math.archTrunc", "math.RoundToEven", "math.Float32bits"], unfollowed := true, recurses := true, apart := false, narrowed := true }
def FnDropsUptoSaid : Prop := fnDropsUptoRow.holds Try.pinned (OpenSpec.upto fnDropsSpec)

end Rows
end Go.Proofs.Ytfhpmcdbfebflaa
