/-
  No cell of these rows narrows 'for every input' (looked for: loops, veiled, ifaces, maps, wideKeys, modest, calm, conditions, laid).
  DERIVED. THE GIVEN ROWS OF THIS SEAT. 9 by the template 'for every input the law returns true; each argument reads behind the call as it read before'; 0 by the template 'total and deterministic' (their statements: YtbalmdjicdeeiaaTotals.lean).
  GIVEN WITH THE SEED: the statements are not yours to turn. If you find one false, say at which input.
  Laid BY PROGRAM, IN A SANDBOX (cutbox-rows.mjs): the forced cells as the released guide's own fill.sh prints them over the translation 9c884a65229b868b… (all of the seat's roots in one cut). By AI agents, Wed Nov 11 2026. No macro, syntax, notation, axiom, sorry.
-/
import Derived.Test.YtbalmdjicdeeiaaChecked
import GoSem.Claim
import GoSem.ClaimJoined
import GoSem.ClaimMapViews
import Derived.JoinedTies
import Derived.KernelRfl
namespace Go.Proofs.Ytbalmdjicdeeiaa
/- THE CELL 'sum', in the pinned program and in every row, IS THE sha256 OF THE DUMP (.gsa) THAT YtbalmdjicdeeiaaProg.lean LOADS. Nothing in Lean hashes anything: it is a label: what it is worth is what the hold of that sum in a sandbox is worth. -/
noncomputable def Try.pinned : Pinned := { name := "ytbalmdjicdeeiaa", sum := "9c884a65229b868baba0baaf20cdbde92ebde5c95da3af018e22ba7573652e28", checked := Try.checked }
namespace Rows
def none {H : Type} : Left H := { results := [], args := [] }

/-- 'laws.FnExactValidScene': WHATEVER THE INPUT: true; the input reads as it did. -/
def fnExactValidSceneSpec : ChangeSpec := { name := "fnExactValidScene", fn := fun _ => fun
  | [d] => { results := [.lit (.bool true)], args := [d] }
  | _ => none }
def fnExactValidSceneRow : OpenClaim := { program := "ytbalmdjicdeeiaa", sum := "9c884a65229b868baba0baaf20cdbde92ebde5c95da3af018e22ba7573652e28", func := "loop.example/g01193/laws.FnExactValidScene", spec := "fnExactValidScene", unfollowed := true, recurses := true, apart := false }
def FnExactValidSceneSaid : Prop := fnExactValidSceneRow.holds Try.pinned (OpenSpec.ofChange fnExactValidSceneSpec)

/-- ITS FALSE NEIGHBOUR: 'it returns false'. Refute it at one input. -/
def fnExactValidSceneWrong : ChangeSpec := { name := "fnExactValidScene", fn := fun _ => fun
  | [d] => { results := [.lit (.bool false)], args := [d] }
  | _ => none }
def FnExactValidSceneWrongFalsely : Prop := fnExactValidSceneRow.holds Try.pinned (OpenSpec.ofChange fnExactValidSceneWrong)

/-- 'laws.FnExactFindThing': WHATEVER THE INPUT: true; the input reads as it did. -/
def fnExactFindThingSpec : ChangeSpec := { name := "fnExactFindThing", fn := fun _ => fun
  | [d1, d2] => { results := [.lit (.bool true)], args := [d1, d2] }
  | _ => none }
def fnExactFindThingRow : OpenClaim := { program := "ytbalmdjicdeeiaa", sum := "9c884a65229b868baba0baaf20cdbde92ebde5c95da3af018e22ba7573652e28", func := "loop.example/g01193/laws.FnExactFindThing", spec := "fnExactFindThing", inPlace := ["internal/bytealg.abigen_runtime_cmpstring"], unfollowed := true, recurses := true, apart := false }
def FnExactFindThingSaid : Prop := fnExactFindThingRow.holds Try.pinned (OpenSpec.ofChange fnExactFindThingSpec)

/-- ITS FALSE NEIGHBOUR: 'it returns false'. Refute it at one input. -/
def fnExactFindThingWrong : ChangeSpec := { name := "fnExactFindThing", fn := fun _ => fun
  | [d1, d2] => { results := [.lit (.bool false)], args := [d1, d2] }
  | _ => none }
def FnExactFindThingWrongFalsely : Prop := fnExactFindThingRow.holds Try.pinned (OpenSpec.ofChange fnExactFindThingWrong)

/-- 'laws.FnExactSameScene': WHATEVER THE INPUT: true; the input reads as it did. -/
def fnExactSameSceneSpec : ChangeSpec := { name := "fnExactSameScene", fn := fun _ => fun
  | [d1, d2] => { results := [.lit (.bool true)], args := [d1, d2] }
  | _ => none }
def fnExactSameSceneRow : OpenClaim := { program := "ytbalmdjicdeeiaa", sum := "9c884a65229b868baba0baaf20cdbde92ebde5c95da3af018e22ba7573652e28", func := "loop.example/g01193/laws.FnExactSameScene", spec := "fnExactSameScene", inPlace := ["math.Float32bits"], unfollowed := true, recurses := true, apart := false }
def FnExactSameSceneSaid : Prop := fnExactSameSceneRow.holds Try.pinned (OpenSpec.ofChange fnExactSameSceneSpec)

/-- ITS FALSE NEIGHBOUR: 'it returns false'. Refute it at one input. -/
def fnExactSameSceneWrong : ChangeSpec := { name := "fnExactSameScene", fn := fun _ => fun
  | [d1, d2] => { results := [.lit (.bool false)], args := [d1, d2] }
  | _ => none }
def FnExactSameSceneWrongFalsely : Prop := fnExactSameSceneRow.holds Try.pinned (OpenSpec.ofChange fnExactSameSceneWrong)

/-- 'laws.FnExactPathOf': WHATEVER THE INPUT: true; the input reads as it did. -/
def fnExactPathOfSpec : ChangeSpec := { name := "fnExactPathOf", fn := fun _ => fun
  | [d1, d2, d3, d4] => { results := [.lit (.bool true)], args := [d1, d2, d3, d4] }
  | _ => none }
def fnExactPathOfRow : OpenClaim := { program := "ytbalmdjicdeeiaa", sum := "9c884a65229b868baba0baaf20cdbde92ebde5c95da3af018e22ba7573652e28", func := "loop.example/g01193/laws.FnExactPathOf", spec := "fnExactPathOf", unfollowed := true, recurses := true, apart := false }
def FnExactPathOfSaid : Prop := fnExactPathOfRow.holds Try.pinned (OpenSpec.ofChange fnExactPathOfSpec)

/-- ITS FALSE NEIGHBOUR: 'it returns false'. Refute it at one input. -/
def fnExactPathOfWrong : ChangeSpec := { name := "fnExactPathOf", fn := fun _ => fun
  | [d1, d2, d3, d4] => { results := [.lit (.bool false)], args := [d1, d2, d3, d4] }
  | _ => none }
def FnExactPathOfWrongFalsely : Prop := fnExactPathOfRow.holds Try.pinned (OpenSpec.ofChange fnExactPathOfWrong)

/-- 'laws.FnExactLaterKeys': WHATEVER THE INPUT: true; the input reads as it did. -/
def fnExactLaterKeysSpec : ChangeSpec := { name := "fnExactLaterKeys", fn := fun _ => fun
  | [d1, d2] => { results := [.lit (.bool true)], args := [d1, d2] }
  | _ => none }
def fnExactLaterKeysRow : OpenClaim := { program := "ytbalmdjicdeeiaa", sum := "9c884a65229b868baba0baaf20cdbde92ebde5c95da3af018e22ba7573652e28", func := "loop.example/g01193/laws.FnExactLaterKeys", spec := "fnExactLaterKeys", unfollowed := true, recurses := true, apart := false }
def FnExactLaterKeysSaid : Prop := fnExactLaterKeysRow.holds Try.pinned (OpenSpec.ofChange fnExactLaterKeysSpec)

/-- ITS FALSE NEIGHBOUR: 'it returns false'. Refute it at one input. -/
def fnExactLaterKeysWrong : ChangeSpec := { name := "fnExactLaterKeys", fn := fun _ => fun
  | [d1, d2] => { results := [.lit (.bool false)], args := [d1, d2] }
  | _ => none }
def FnExactLaterKeysWrongFalsely : Prop := fnExactLaterKeysRow.holds Try.pinned (OpenSpec.ofChange fnExactLaterKeysWrong)

/-- 'laws.FnExactStoreScene': WHATEVER THE INPUT: true; the input reads as it did. -/
def fnExactStoreSceneSpec : ChangeSpec := { name := "fnExactStoreScene", fn := fun _ => fun
  | [d] => { results := [.lit (.bool true)], args := [d] }
  | _ => none }
def fnExactStoreSceneRow : OpenClaim := { program := "ytbalmdjicdeeiaa", sum := "9c884a65229b868baba0baaf20cdbde92ebde5c95da3af018e22ba7573652e28", func := "loop.example/g01193/laws.FnExactStoreScene", spec := "fnExactStoreScene", inPlace := ["math.Float32bits", "internal/abi.NoEscape"], unfollowed := true, recurses := true, apart := false }
def FnExactStoreSceneSaid : Prop := fnExactStoreSceneRow.holds Try.pinned (OpenSpec.ofChange fnExactStoreSceneSpec)

/-- ITS FALSE NEIGHBOUR: 'it returns false'. Refute it at one input. -/
def fnExactStoreSceneWrong : ChangeSpec := { name := "fnExactStoreScene", fn := fun _ => fun
  | [d] => { results := [.lit (.bool false)], args := [d] }
  | _ => none }
def FnExactStoreSceneWrongFalsely : Prop := fnExactStoreSceneRow.holds Try.pinned (OpenSpec.ofChange fnExactStoreSceneWrong)

/-- 'laws.FnExactStoredSize': WHATEVER THE INPUT: true; the input reads as it did. -/
def fnExactStoredSizeSpec : ChangeSpec := { name := "fnExactStoredSize", fn := fun _ => fun
  | [d] => { results := [.lit (.bool true)], args := [d] }
  | _ => none }
def fnExactStoredSizeRow : OpenClaim := { program := "ytbalmdjicdeeiaa", sum := "9c884a65229b868baba0baaf20cdbde92ebde5c95da3af018e22ba7573652e28", func := "loop.example/g01193/laws.FnExactStoredSize", spec := "fnExactStoredSize", inPlace := ["math.Float32bits", "internal/abi.NoEscape"], unfollowed := true, recurses := true, apart := false }
def FnExactStoredSizeSaid : Prop := fnExactStoredSizeRow.holds Try.pinned (OpenSpec.ofChange fnExactStoredSizeSpec)

/-- ITS FALSE NEIGHBOUR: 'it returns false'. Refute it at one input. -/
def fnExactStoredSizeWrong : ChangeSpec := { name := "fnExactStoredSize", fn := fun _ => fun
  | [d] => { results := [.lit (.bool false)], args := [d] }
  | _ => none }
def FnExactStoredSizeWrongFalsely : Prop := fnExactStoredSizeRow.holds Try.pinned (OpenSpec.ofChange fnExactStoredSizeWrong)

/-- 'laws.FnExactThinKeys': WHATEVER THE INPUT: true; the input reads as it did. -/
def fnExactThinKeysSpec : ChangeSpec := { name := "fnExactThinKeys", fn := fun _ => fun
  | [d] => { results := [.lit (.bool true)], args := [d] }
  | _ => none }
def fnExactThinKeysRow : OpenClaim := { program := "ytbalmdjicdeeiaa", sum := "9c884a65229b868baba0baaf20cdbde92ebde5c95da3af018e22ba7573652e28", func := "loop.example/g01193/laws.FnExactThinKeys", spec := "fnExactThinKeys", inPlace := ["math.Float32bits"], unfollowed := true, recurses := true, apart := false }
def FnExactThinKeysSaid : Prop := fnExactThinKeysRow.holds Try.pinned (OpenSpec.ofChange fnExactThinKeysSpec)

/-- ITS FALSE NEIGHBOUR: 'it returns false'. Refute it at one input. -/
def fnExactThinKeysWrong : ChangeSpec := { name := "fnExactThinKeys", fn := fun _ => fun
  | [d] => { results := [.lit (.bool false)], args := [d] }
  | _ => none }
def FnExactThinKeysWrongFalsely : Prop := fnExactThinKeysRow.holds Try.pinned (OpenSpec.ofChange fnExactThinKeysWrong)

/-- 'laws.FnExactDropThing': WHATEVER THE INPUT: true; the input reads as it did. -/
def fnExactDropThingSpec : ChangeSpec := { name := "fnExactDropThing", fn := fun _ => fun
  | [d1, d2] => { results := [.lit (.bool true)], args := [d1, d2] }
  | _ => none }
def fnExactDropThingRow : OpenClaim := { program := "ytbalmdjicdeeiaa", sum := "9c884a65229b868baba0baaf20cdbde92ebde5c95da3af018e22ba7573652e28", func := "loop.example/g01193/laws.FnExactDropThing", spec := "fnExactDropThing", inPlace := ["internal/bytealg.abigen_runtime_cmpstring"], unfollowed := true, recurses := true, apart := false }
def FnExactDropThingSaid : Prop := fnExactDropThingRow.holds Try.pinned (OpenSpec.ofChange fnExactDropThingSpec)

/-- ITS FALSE NEIGHBOUR: 'it returns false'. Refute it at one input. -/
def fnExactDropThingWrong : ChangeSpec := { name := "fnExactDropThing", fn := fun _ => fun
  | [d1, d2] => { results := [.lit (.bool false)], args := [d1, d2] }
  | _ => none }
def FnExactDropThingWrongFalsely : Prop := fnExactDropThingRow.holds Try.pinned (OpenSpec.ofChange fnExactDropThingWrong)

/- THE SECOND FORM. 'bulk': how many values and letters a reading holds, each counted each time it is reached (what is shared counts as often as it is met; a slice's spare places count too). A statement '..UptoSaid' is the law's where the arguments, and the package variables that the reading takes, are together of bulk at most 1048576: NARROWER than '..Said'. Prove '..Said' where nothing that the law and all that it calls make is longer than what came in: it says more and counts as full. Else prove '..UptoSaid'. A law counts once. -/
mutual
def uptoBulk {H : Type} : DataW H → Nat
  | .lit (.string bytes) => bytes.length + 1
  | .lit _ => 1
  | .nil => 1
  | .ptr d => uptoBulk d + 1
  | .slice elems spare => uptoBulkAll elems + uptoBulkAll spare + 1
  | .agg parts => uptoBulkAll parts + 1
  | .iface _ d => uptoBulk d + 1
  | .map entries => uptoBulkEntries entries + 1
  | .held _ => 1
def uptoBulkAll {H : Type} : List (DataW H) → Nat
  | [] => 0
  | d :: r => uptoBulk d + uptoBulkAll r
def uptoBulkEntries {H : Type} : List (Lit × DataW H) → Nat
  | [] => 0
  | x :: r => uptoBulkEntry x + uptoBulkEntries r
def uptoBulkEntry {H : Type} : Lit × DataW H → Nat
  | (.string bytes, d) => bytes.length + uptoBulk d + 1
  | (_, d) => uptoBulk d + 1
 end
def uptoSmall : (H : Type) → List (DataW H) → Bool := fun _ ds => decide (uptoBulkAll ds ≤ 1048576)
def OpenSpec.upto (s : _root_.Go.ChangeSpec) : _root_.Go.OpenSpec := { _root_.Go.OpenSpec.ofChange s with cond := some uptoSmall }

/-- 'laws.FnExactValidScene', WHERE WHAT IT READS IS OF BULK AT MOST 1048576: true; the input reads as it did. -/
def fnExactValidSceneUptoRow : OpenClaim := { program := "ytbalmdjicdeeiaa", sum := "9c884a65229b868baba0baaf20cdbde92ebde5c95da3af018e22ba7573652e28", func := "loop.example/g01193/laws.FnExactValidScene", spec := "fnExactValidScene", unfollowed := true, recurses := true, apart := false, narrowed := true }
def FnExactValidSceneUptoSaid : Prop := fnExactValidSceneUptoRow.holds Try.pinned (OpenSpec.upto fnExactValidSceneSpec)

/-- 'laws.FnExactFindThing', WHERE WHAT IT READS IS OF BULK AT MOST 1048576: true; the input reads as it did. -/
def fnExactFindThingUptoRow : OpenClaim := { program := "ytbalmdjicdeeiaa", sum := "9c884a65229b868baba0baaf20cdbde92ebde5c95da3af018e22ba7573652e28", func := "loop.example/g01193/laws.FnExactFindThing", spec := "fnExactFindThing", inPlace := ["internal/bytealg.abigen_runtime_cmpstring"], unfollowed := true, recurses := true, apart := false, narrowed := true }
def FnExactFindThingUptoSaid : Prop := fnExactFindThingUptoRow.holds Try.pinned (OpenSpec.upto fnExactFindThingSpec)

/-- 'laws.FnExactSameScene', WHERE WHAT IT READS IS OF BULK AT MOST 1048576: true; the input reads as it did. -/
def fnExactSameSceneUptoRow : OpenClaim := { program := "ytbalmdjicdeeiaa", sum := "9c884a65229b868baba0baaf20cdbde92ebde5c95da3af018e22ba7573652e28", func := "loop.example/g01193/laws.FnExactSameScene", spec := "fnExactSameScene", inPlace := ["math.Float32bits"], unfollowed := true, recurses := true, apart := false, narrowed := true }
def FnExactSameSceneUptoSaid : Prop := fnExactSameSceneUptoRow.holds Try.pinned (OpenSpec.upto fnExactSameSceneSpec)

/-- 'laws.FnExactPathOf', WHERE WHAT IT READS IS OF BULK AT MOST 1048576: true; the input reads as it did. -/
def fnExactPathOfUptoRow : OpenClaim := { program := "ytbalmdjicdeeiaa", sum := "9c884a65229b868baba0baaf20cdbde92ebde5c95da3af018e22ba7573652e28", func := "loop.example/g01193/laws.FnExactPathOf", spec := "fnExactPathOf", unfollowed := true, recurses := true, apart := false, narrowed := true }
def FnExactPathOfUptoSaid : Prop := fnExactPathOfUptoRow.holds Try.pinned (OpenSpec.upto fnExactPathOfSpec)

/-- 'laws.FnExactLaterKeys', WHERE WHAT IT READS IS OF BULK AT MOST 1048576: true; the input reads as it did. -/
def fnExactLaterKeysUptoRow : OpenClaim := { program := "ytbalmdjicdeeiaa", sum := "9c884a65229b868baba0baaf20cdbde92ebde5c95da3af018e22ba7573652e28", func := "loop.example/g01193/laws.FnExactLaterKeys", spec := "fnExactLaterKeys", unfollowed := true, recurses := true, apart := false, narrowed := true }
def FnExactLaterKeysUptoSaid : Prop := fnExactLaterKeysUptoRow.holds Try.pinned (OpenSpec.upto fnExactLaterKeysSpec)

/-- 'laws.FnExactStoreScene', WHERE WHAT IT READS IS OF BULK AT MOST 1048576: true; the input reads as it did. -/
def fnExactStoreSceneUptoRow : OpenClaim := { program := "ytbalmdjicdeeiaa", sum := "9c884a65229b868baba0baaf20cdbde92ebde5c95da3af018e22ba7573652e28", func := "loop.example/g01193/laws.FnExactStoreScene", spec := "fnExactStoreScene", inPlace := ["math.Float32bits", "internal/abi.NoEscape"], unfollowed := true, recurses := true, apart := false, narrowed := true }
def FnExactStoreSceneUptoSaid : Prop := fnExactStoreSceneUptoRow.holds Try.pinned (OpenSpec.upto fnExactStoreSceneSpec)

/-- 'laws.FnExactStoredSize', WHERE WHAT IT READS IS OF BULK AT MOST 1048576: true; the input reads as it did. -/
def fnExactStoredSizeUptoRow : OpenClaim := { program := "ytbalmdjicdeeiaa", sum := "9c884a65229b868baba0baaf20cdbde92ebde5c95da3af018e22ba7573652e28", func := "loop.example/g01193/laws.FnExactStoredSize", spec := "fnExactStoredSize", inPlace := ["math.Float32bits", "internal/abi.NoEscape"], unfollowed := true, recurses := true, apart := false, narrowed := true }
def FnExactStoredSizeUptoSaid : Prop := fnExactStoredSizeUptoRow.holds Try.pinned (OpenSpec.upto fnExactStoredSizeSpec)

/-- 'laws.FnExactThinKeys', WHERE WHAT IT READS IS OF BULK AT MOST 1048576: true; the input reads as it did. -/
def fnExactThinKeysUptoRow : OpenClaim := { program := "ytbalmdjicdeeiaa", sum := "9c884a65229b868baba0baaf20cdbde92ebde5c95da3af018e22ba7573652e28", func := "loop.example/g01193/laws.FnExactThinKeys", spec := "fnExactThinKeys", inPlace := ["math.Float32bits"], unfollowed := true, recurses := true, apart := false, narrowed := true }
def FnExactThinKeysUptoSaid : Prop := fnExactThinKeysUptoRow.holds Try.pinned (OpenSpec.upto fnExactThinKeysSpec)

/-- 'laws.FnExactDropThing', WHERE WHAT IT READS IS OF BULK AT MOST 1048576: true; the input reads as it did. -/
def fnExactDropThingUptoRow : OpenClaim := { program := "ytbalmdjicdeeiaa", sum := "9c884a65229b868baba0baaf20cdbde92ebde5c95da3af018e22ba7573652e28", func := "loop.example/g01193/laws.FnExactDropThing", spec := "fnExactDropThing", inPlace := ["internal/bytealg.abigen_runtime_cmpstring"], unfollowed := true, recurses := true, apart := false, narrowed := true }
def FnExactDropThingUptoSaid : Prop := fnExactDropThingUptoRow.holds Try.pinned (OpenSpec.upto fnExactDropThingSpec)

end Rows
end Go.Proofs.Ytbalmdjicdeeiaa
