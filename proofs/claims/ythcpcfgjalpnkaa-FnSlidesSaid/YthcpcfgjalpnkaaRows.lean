/-
  No cell of these rows narrows 'for every input' (looked for: loops, veiled, ifaces, maps, wideKeys, modest, calm, conditions, laid).
  DERIVED. THE GIVEN ROWS OF THIS SEAT. 6 by the template 'for every input the law returns true; each argument reads behind the call as it read before'; 0 by the template 'total and deterministic' (their statements: YthcpcfgjalpnkaaTotals.lean).
  GIVEN WITH THE SEED: the statements are not yours to turn. If you find one false, say at which input.
  Laid BY PROGRAM, IN A SANDBOX (cutbox-rows.mjs): the forced cells as the released guide's own fill.sh prints them over the translation 2ef5fd09ab0e18ac… (all of the seat's roots in one cut). By AI agents, Wed Nov 11 2026. No macro, syntax, notation, axiom, sorry.
-/
import Derived.Test.YthcpcfgjalpnkaaChecked
import GoSem.Claim
import GoSem.ClaimJoined
import GoSem.ClaimMapViews
import Derived.JoinedTies
import Derived.KernelRfl
namespace Go.Proofs.Ythcpcfgjalpnkaa
/- THE CELL 'sum', in the pinned program and in every row, IS THE sha256 OF THE DUMP (.gsa) THAT YthcpcfgjalpnkaaProg.lean LOADS. Nothing in Lean hashes anything: it is a label: what it is worth is what the hold of that sum in a sandbox is worth. -/
noncomputable def Try.pinned : Pinned := { name := "ythcpcfgjalpnkaa", sum := "2ef5fd09ab0e18ac3d9cdb6ba41ee3b07a962173429c7ca00d30f44240bdf38c", checked := Try.checked }
namespace Rows
def none {H : Type} : Left H := { results := [], args := [] }

/-- 'laws.FnExactSameVector': WHATEVER THE INPUT: true; the input reads as it did. -/
def fnExactSameVectorSpec : ChangeSpec := { name := "fnExactSameVector", fn := fun _ => fun
  | [d1, d2] => { results := [.lit (.bool true)], args := [d1, d2] }
  | _ => none }
def fnExactSameVectorRow : OpenClaim := { program := "ythcpcfgjalpnkaa", sum := "2ef5fd09ab0e18ac3d9cdb6ba41ee3b07a962173429c7ca00d30f44240bdf38c", func := "loop.example/g01193/laws.FnExactSameVector", spec := "fnExactSameVector", inPlace := ["math.Float32bits"], unfollowed := true, recurses := true, apart := false }
def FnExactSameVectorSaid : Prop := fnExactSameVectorRow.holds Try.pinned (OpenSpec.ofChange fnExactSameVectorSpec)

/-- ITS FALSE NEIGHBOUR: 'it returns false'. Refute it at one input. -/
def fnExactSameVectorWrong : ChangeSpec := { name := "fnExactSameVector", fn := fun _ => fun
  | [d1, d2] => { results := [.lit (.bool false)], args := [d1, d2] }
  | _ => none }
def FnExactSameVectorWrongFalsely : Prop := fnExactSameVectorRow.holds Try.pinned (OpenSpec.ofChange fnExactSameVectorWrong)

/-- 'laws.FnNarrowed': WHATEVER THE INPUT: true; the input reads as it did. -/
def fnNarrowedSpec : ChangeSpec := { name := "fnNarrowed", fn := fun _ => fun
  | [d1, d2] => { results := [.lit (.bool true)], args := [d1, d2] }
  | _ => none }
def fnNarrowedRow : OpenClaim := { program := "ythcpcfgjalpnkaa", sum := "2ef5fd09ab0e18ac3d9cdb6ba41ee3b07a962173429c7ca00d30f44240bdf38c", func := "loop.example/g01193/laws.FnNarrowed", spec := "fnNarrowed", inPlace := ["math.Float32frombits", "math.Float32bits"], apart := false }
def FnNarrowedSaid : Prop := fnNarrowedRow.holds Try.pinned (OpenSpec.ofChange fnNarrowedSpec)

/-- ITS FALSE NEIGHBOUR: 'it returns false'. Refute it at one input. -/
def fnNarrowedWrong : ChangeSpec := { name := "fnNarrowed", fn := fun _ => fun
  | [d1, d2] => { results := [.lit (.bool false)], args := [d1, d2] }
  | _ => none }
def FnNarrowedWrongFalsely : Prop := fnNarrowedRow.holds Try.pinned (OpenSpec.ofChange fnNarrowedWrong)

/-- 'laws.FnBits': WHATEVER THE INPUT: true; the input reads as it did. -/
def fnBitsSpec : ChangeSpec := { name := "fnBits", fn := fun _ => fun
  | [d1, d2] => { results := [.lit (.bool true)], args := [d1, d2] }
  | _ => none }
def fnBitsRow : OpenClaim := { program := "ythcpcfgjalpnkaa", sum := "2ef5fd09ab0e18ac3d9cdb6ba41ee3b07a962173429c7ca00d30f44240bdf38c", func := "loop.example/g01193/laws.FnBits", spec := "fnBits", inPlace := ["math.Float32frombits", "math.Float32bits"], apart := false }
def FnBitsSaid : Prop := fnBitsRow.holds Try.pinned (OpenSpec.ofChange fnBitsSpec)

/-- ITS FALSE NEIGHBOUR: 'it returns false'. Refute it at one input. -/
def fnBitsWrong : ChangeSpec := { name := "fnBits", fn := fun _ => fun
  | [d1, d2] => { results := [.lit (.bool false)], args := [d1, d2] }
  | _ => none }
def FnBitsWrongFalsely : Prop := fnBitsRow.holds Try.pinned (OpenSpec.ofChange fnBitsWrong)

/-- 'laws.FnSlides': WHATEVER THE INPUT: true; the input reads as it did. -/
def fnSlidesSpec : ChangeSpec := { name := "fnSlides", fn := fun _ => fun
  | [d1, d2] => { results := [.lit (.bool true)], args := [d1, d2] }
  | _ => none }
def fnSlidesRow : OpenClaim := { program := "ythcpcfgjalpnkaa", sum := "2ef5fd09ab0e18ac3d9cdb6ba41ee3b07a962173429c7ca00d30f44240bdf38c", func := "loop.example/g01193/laws.FnSlides", spec := "fnSlides", inPlace := ["math.sqrt"], apart := false }
def FnSlidesSaid : Prop := fnSlidesRow.holds Try.pinned (OpenSpec.ofChange fnSlidesSpec)

/-- ITS FALSE NEIGHBOUR: 'it returns false'. Refute it at one input. -/
def fnSlidesWrong : ChangeSpec := { name := "fnSlides", fn := fun _ => fun
  | [d1, d2] => { results := [.lit (.bool false)], args := [d1, d2] }
  | _ => none }
def FnSlidesWrongFalsely : Prop := fnSlidesRow.holds Try.pinned (OpenSpec.ofChange fnSlidesWrong)

/-- 'laws.FnExactVectorText': WHATEVER THE INPUT: true; the input reads as it did. -/
def fnExactVectorTextSpec : ChangeSpec := { name := "fnExactVectorText", fn := fun _ => fun
  | [d] => { results := [.lit (.bool true)], args := [d] }
  | _ => none }
def fnExactVectorTextRow : OpenClaim := { program := "ythcpcfgjalpnkaa", sum := "2ef5fd09ab0e18ac3d9cdb6ba41ee3b07a962173429c7ca00d30f44240bdf38c", func := "loop.example/g01193/laws.FnExactVectorText", spec := "fnExactVectorText", inPlace := ["math.Float32bits", "internal/abi.NoEscape", "internal/bytealg.MakeNoZero"], apart := false }
def FnExactVectorTextSaid : Prop := fnExactVectorTextRow.holds Try.pinned (OpenSpec.ofChange fnExactVectorTextSpec)

/-- ITS FALSE NEIGHBOUR: 'it returns false'. Refute it at one input. -/
def fnExactVectorTextWrong : ChangeSpec := { name := "fnExactVectorText", fn := fun _ => fun
  | [d] => { results := [.lit (.bool false)], args := [d] }
  | _ => none }
def FnExactVectorTextWrongFalsely : Prop := fnExactVectorTextRow.holds Try.pinned (OpenSpec.ofChange fnExactVectorTextWrong)

/-- 'laws.FnExactSameGrid': WHATEVER THE INPUT: true; the input reads as it did. -/
def fnExactSameGridSpec : ChangeSpec := { name := "fnExactSameGrid", fn := fun _ => fun
  | [d1, d2] => { results := [.lit (.bool true)], args := [d1, d2] }
  | _ => none }
def fnExactSameGridRow : OpenClaim := { program := "ythcpcfgjalpnkaa", sum := "2ef5fd09ab0e18ac3d9cdb6ba41ee3b07a962173429c7ca00d30f44240bdf38c", func := "loop.example/g01193/laws.FnExactSameGrid", spec := "fnExactSameGrid", inPlace := ["math.Float32bits"], unfollowed := true, recurses := true, apart := false }
def FnExactSameGridSaid : Prop := fnExactSameGridRow.holds Try.pinned (OpenSpec.ofChange fnExactSameGridSpec)

/-- ITS FALSE NEIGHBOUR: 'it returns false'. Refute it at one input. -/
def fnExactSameGridWrong : ChangeSpec := { name := "fnExactSameGrid", fn := fun _ => fun
  | [d1, d2] => { results := [.lit (.bool false)], args := [d1, d2] }
  | _ => none }
def FnExactSameGridWrongFalsely : Prop := fnExactSameGridRow.holds Try.pinned (OpenSpec.ofChange fnExactSameGridWrong)

/- THE SECOND FORM. 'bulk': how many values and letters a reading holds, each counted each time it is reached (what is shared counts as often as it is met; a slice's spare places count too). A statement '..UptoSaid' is the law's where the arguments, and the package variables that the reading takes, are together of bulk at most 1048576: NARROWER than '..Said'. Prove '..Said' where nothing that the law and all that it calls make is longer than what came in: it says more and counts as full. Else prove '..UptoSaid'. A law counts once. -/
mutual
def uptoBulk {H : Type} : DataW H → Nat
  | .lit (.string bytes) => bytes.length + 1
  | .lit _ => 1
  | .nil => 1
  | .ptr d => uptoBulk d + 1
  | .slice elems spare => uptoBulkAll elems + uptoBulkAll spare + 1
  | .agg parts => uptoBulkAll parts + 1
  | .iface _ d => uptoBulk d + 1
  | .map entries => uptoBulkEntries entries + 1
  | .held _ => 1
def uptoBulkAll {H : Type} : List (DataW H) → Nat
  | [] => 0
  | d :: r => uptoBulk d + uptoBulkAll r
def uptoBulkEntries {H : Type} : List (Lit × DataW H) → Nat
  | [] => 0
  | x :: r => uptoBulkEntry x + uptoBulkEntries r
def uptoBulkEntry {H : Type} : Lit × DataW H → Nat
  | (.string bytes, d) => bytes.length + uptoBulk d + 1
  | (_, d) => uptoBulk d + 1
 end
def uptoSmall : (H : Type) → List (DataW H) → Bool := fun _ ds => decide (uptoBulkAll ds ≤ 1048576)
def OpenSpec.upto (s : _root_.Go.ChangeSpec) : _root_.Go.OpenSpec := { _root_.Go.OpenSpec.ofChange s with cond := some uptoSmall }

/-- 'laws.FnExactSameVector', WHERE WHAT IT READS IS OF BULK AT MOST 1048576: true; the input reads as it did. -/
def fnExactSameVectorUptoRow : OpenClaim := { program := "ythcpcfgjalpnkaa", sum := "2ef5fd09ab0e18ac3d9cdb6ba41ee3b07a962173429c7ca00d30f44240bdf38c", func := "loop.example/g01193/laws.FnExactSameVector", spec := "fnExactSameVector", inPlace := ["math.Float32bits"], unfollowed := true, recurses := true, apart := false, narrowed := true }
def FnExactSameVectorUptoSaid : Prop := fnExactSameVectorUptoRow.holds Try.pinned (OpenSpec.upto fnExactSameVectorSpec)

/-- 'laws.FnNarrowed', WHERE WHAT IT READS IS OF BULK AT MOST 1048576: true; the input reads as it did. -/
def fnNarrowedUptoRow : OpenClaim := { program := "ythcpcfgjalpnkaa", sum := "2ef5fd09ab0e18ac3d9cdb6ba41ee3b07a962173429c7ca00d30f44240bdf38c", func := "loop.example/g01193/laws.FnNarrowed", spec := "fnNarrowed", inPlace := ["math.Float32frombits", "math.Float32bits"], apart := false, narrowed := true }
def FnNarrowedUptoSaid : Prop := fnNarrowedUptoRow.holds Try.pinned (OpenSpec.upto fnNarrowedSpec)

/-- 'laws.FnBits', WHERE WHAT IT READS IS OF BULK AT MOST 1048576: true; the input reads as it did. -/
def fnBitsUptoRow : OpenClaim := { program := "ythcpcfgjalpnkaa", sum := "2ef5fd09ab0e18ac3d9cdb6ba41ee3b07a962173429c7ca00d30f44240bdf38c", func := "loop.example/g01193/laws.FnBits", spec := "fnBits", inPlace := ["math.Float32frombits", "math.Float32bits"], apart := false, narrowed := true }
def FnBitsUptoSaid : Prop := fnBitsUptoRow.holds Try.pinned (OpenSpec.upto fnBitsSpec)

/-- 'laws.FnSlides', WHERE WHAT IT READS IS OF BULK AT MOST 1048576: true; the input reads as it did. -/
def fnSlidesUptoRow : OpenClaim := { program := "ythcpcfgjalpnkaa", sum := "2ef5fd09ab0e18ac3d9cdb6ba41ee3b07a962173429c7ca00d30f44240bdf38c", func := "loop.example/g01193/laws.FnSlides", spec := "fnSlides", inPlace := ["math.sqrt"], apart := false, narrowed := true }
def FnSlidesUptoSaid : Prop := fnSlidesUptoRow.holds Try.pinned (OpenSpec.upto fnSlidesSpec)

/-- 'laws.FnExactVectorText', WHERE WHAT IT READS IS OF BULK AT MOST 1048576: true; the input reads as it did. -/
def fnExactVectorTextUptoRow : OpenClaim := { program := "ythcpcfgjalpnkaa", sum := "2ef5fd09ab0e18ac3d9cdb6ba41ee3b07a962173429c7ca00d30f44240bdf38c", func := "loop.example/g01193/laws.FnExactVectorText", spec := "fnExactVectorText", inPlace := ["math.Float32bits", "internal/abi.NoEscape", "internal/bytealg.MakeNoZero"], apart := false, narrowed := true }
def FnExactVectorTextUptoSaid : Prop := fnExactVectorTextUptoRow.holds Try.pinned (OpenSpec.upto fnExactVectorTextSpec)

/-- 'laws.FnExactSameGrid', WHERE WHAT IT READS IS OF BULK AT MOST 1048576: true; the input reads as it did. -/
def fnExactSameGridUptoRow : OpenClaim := { program := "ythcpcfgjalpnkaa", sum := "2ef5fd09ab0e18ac3d9cdb6ba41ee3b07a962173429c7ca00d30f44240bdf38c", func := "loop.example/g01193/laws.FnExactSameGrid", spec := "fnExactSameGrid", inPlace := ["math.Float32bits"], unfollowed := true, recurses := true, apart := false, narrowed := true }
def FnExactSameGridUptoSaid : Prop := fnExactSameGridUptoRow.holds Try.pinned (OpenSpec.upto fnExactSameGridSpec)

end Rows
end Go.Proofs.Ythcpcfgjalpnkaa
