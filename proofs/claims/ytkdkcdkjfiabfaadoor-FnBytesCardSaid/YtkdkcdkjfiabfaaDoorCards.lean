/-
  DERIVED. GIVEN WITH THE SEED: THE CARDS: each row of YtkdkcdkjfiabfaaDoorRows.lean that lists a variable, with what it lists TIED to the program's text (the seventh form; the later family's looks); each row that meets fmt, with fmt's text TOLD by the authors' own Lean function (tested against real Go, not proved from fmt's source: count such statements apart). THE CARD IS WHAT COUNTS. Prove the row's statement (the work); the ties are given (YtkdkcdkjfiabfaaDoorTie.lean); close each card by the builder's one call (the guide's Derived/Test/ToyasCard.lean, 'card_holds'). Laid BY PROGRAM, IN A SANDBOX (cutbox-door.mjs). By AI agents, Wed Nov 11 2026. No macro, syntax, notation, axiom, sorry.
-/
import Derived.Test.YtkdkcdkjfiabfaaDoorRows
import GoSem.ClaimSeven
namespace Go.Proofs.YtkdkcdkjfiabfaaDoor
namespace Rows

/-- THE TIED CARD OF 'laws.FnBytes'. -/
def fnBytesCard : Claim7 := { stood := { row := fnBytesRow, standIns := [], harness := (true, "f86cfd8763ff5a3e14ce787692054ad672f75147dffdcf16b3be4f9eaa57c025"), looks := false }, kinds := [], alts := [], laidByText := true, laidKinds := [.data, .data, .data], laidTests := true, laidLooks := .later }
def FnBytesCardSaid : Prop := Claim7.holds Tryd.pinned (.plain (OpenSpec.ofChange fnBytesSpec)) fnBytesCard

/-- THE TIED CARD OF 'laws.FnVectors'. -/
def fnVectorsCard : Claim7 := { stood := { row := fnVectorsRow, standIns := [], harness := (true, "f86cfd8763ff5a3e14ce787692054ad672f75147dffdcf16b3be4f9eaa57c025"), looks := false }, kinds := [], alts := [], laidByText := true, laidKinds := [.data, .pinned], laidTests := true, laidLooks := .later }
def FnVectorsCardSaid : Prop := Claim7.holds Tryd.pinned (.plain (OpenSpec.ofChange fnVectorsSpec)) fnVectorsCard

/-- THE SECOND FORM's CARD OF 'laws.FnBytes'. -/
def fnBytesUptoCard : Claim7 := { stood := { row := fnBytesUptoRow, standIns := [], harness := (true, "f86cfd8763ff5a3e14ce787692054ad672f75147dffdcf16b3be4f9eaa57c025"), looks := false }, kinds := [], alts := [], laidByText := true, laidKinds := [.data, .data, .data], laidTests := true, laidLooks := .later }
def FnBytesUptoCardSaid : Prop := Claim7.holds Tryd.pinned (.plain (OpenSpec.upto fnBytesSpec)) fnBytesUptoCard

/-- THE SECOND FORM's CARD OF 'laws.FnVectors'. -/
def fnVectorsUptoCard : Claim7 := { stood := { row := fnVectorsUptoRow, standIns := [], harness := (true, "f86cfd8763ff5a3e14ce787692054ad672f75147dffdcf16b3be4f9eaa57c025"), looks := false }, kinds := [], alts := [], laidByText := true, laidKinds := [.data, .pinned], laidTests := true, laidLooks := .later }
def FnVectorsUptoCardSaid : Prop := Claim7.holds Tryd.pinned (.plain (OpenSpec.upto fnVectorsSpec)) fnVectorsUptoCard
end Rows
end Go.Proofs.YtkdkcdkjfiabfaaDoor
