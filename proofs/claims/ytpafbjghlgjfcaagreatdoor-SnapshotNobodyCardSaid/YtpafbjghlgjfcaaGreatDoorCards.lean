/-
  DERIVED. GIVEN WITH THE SEED: THE CARDS: each row of YtpafbjghlgjfcaaGreatDoorRows.lean that lists a variable, with what it lists TIED to the program's text (the seventh form; the later family's looks); each row that meets fmt, with fmt's text TOLD by the authors' own Lean function (tested against real Go, not proved from fmt's source: count such statements apart). THE CARD IS WHAT COUNTS. Prove the row's statement (the work); the ties are given (YtpafbjghlgjfcaaGreatDoorTie.lean); close each card by the builder's one call (the guide's Derived/Test/ToyasCard.lean, 'card_holds'). Laid BY PROGRAM, IN A SANDBOX (cutbox-door.mjs). By AI agents, Wed Nov 11 2026. No macro, syntax, notation, axiom, sorry.
-/
import Derived.Test.YtpafbjghlgjfcaaGreatDoorRows
import GoSem.ClaimSeven
namespace Go.Proofs.YtpafbjghlgjfcaaGreatDoor
namespace Rows

/-- THE TIED CARD OF 'quilllaw29.SnapshotNobody'. -/
def snapshotNobodyCard : Claim7 := { stood := { row := snapshotNobodyRow, standIns := [], harness := (true, "18a9b597520d7ee11da16af3cd09884abecf22064015c24f1d0add385bf611c4"), looks := true }, kinds := [], alts := [], laidByText := true, laidKinds := [.data, .data, .data, .data, .data, .sentinel, .sentinel, .pinned, .pinned, .pinned], laidTests := true, laidLooks := .later }
def SnapshotNobodyCardSaid : Prop := Claim7.holds Tryz.pinned (.plain (OpenSpec.ofChange snapshotNobodySpec)) snapshotNobodyCard

/-- THE SECOND FORM's CARD OF 'quilllaw29.SnapshotNobody'. -/
def snapshotNobodyUptoCard : Claim7 := { stood := { row := snapshotNobodyUptoRow, standIns := [], harness := (true, "18a9b597520d7ee11da16af3cd09884abecf22064015c24f1d0add385bf611c4"), looks := true }, kinds := [], alts := [], laidByText := true, laidKinds := [.data, .data, .data, .data, .data, .sentinel, .sentinel, .pinned, .pinned, .pinned], laidTests := true, laidLooks := .later }
def SnapshotNobodyUptoCardSaid : Prop := Claim7.holds Tryz.pinned (.plain (OpenSpec.upto snapshotNobodySpec)) snapshotNobodyUptoCard
end Rows
end Go.Proofs.YtpafbjghlgjfcaaGreatDoor
