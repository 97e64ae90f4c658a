/-
  DERIVED. GIVEN WITH THE SEED: THE CARDS: each row of YtelgobelbeabaaaGreatDoorRows.lean that lists a variable, with what it lists TIED to the program's text (the seventh form; the later family's looks); each row that meets fmt, with fmt's text TOLD by the authors' own Lean function (tested against real Go, not proved from fmt's source: count such statements apart). THE CARD IS WHAT COUNTS. Prove the row's statement (the work); the ties are given (YtelgobelbeabaaaGreatDoorTie.lean); close each card by the builder's one call (the guide's Derived/Test/ToyasCard.lean, 'card_holds'). Laid BY PROGRAM, IN A SANDBOX (cutbox-door.mjs). By AI agents, Wed Nov 11 2026. No macro, syntax, notation, axiom, sorry.
-/
import Derived.Test.YtelgobelbeabaaaGreatDoorRows
import GoSem.ClaimSeven
namespace Go.Proofs.YtelgobelbeabaaaGreatDoor
namespace Rows

/-- THE TIED CARD OF 'quilllaw29.SnapshotShows'. -/
def snapshotShowsCard : Claim7 := { stood := { row := snapshotShowsRow, standIns := [], harness := (true, "6bfb047355f5610df3db25033f6776adc18b8aa660d1727b96526eb83d980d7f"), looks := true }, kinds := [], alts := [], laidByText := true, laidKinds := [.data, .data, .data, .data, .pinned, .pinned, .sentinel, .sentinel, .pinned, .data], laidTests := true, laidLooks := .later }
def SnapshotShowsCardSaid : Prop := Claim7.holds Tryz.pinned (.plain (OpenSpec.ofChange snapshotShowsSpec)) snapshotShowsCard

/-- THE SECOND FORM's CARD OF 'quilllaw29.SnapshotShows'. -/
def snapshotShowsUptoCard : Claim7 := { stood := { row := snapshotShowsUptoRow, standIns := [], harness := (true, "6bfb047355f5610df3db25033f6776adc18b8aa660d1727b96526eb83d980d7f"), looks := true }, kinds := [], alts := [], laidByText := true, laidKinds := [.data, .data, .data, .data, .pinned, .pinned, .sentinel, .sentinel, .pinned, .data], laidTests := true, laidLooks := .later }
def SnapshotShowsUptoCardSaid : Prop := Claim7.holds Tryz.pinned (.plain (OpenSpec.upto snapshotShowsSpec)) snapshotShowsUptoCard
end Rows
end Go.Proofs.YtelgobelbeabaaaGreatDoor
