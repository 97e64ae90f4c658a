/-
  DERIVED. GIVEN WITH THE SEED: THE CARDS: each row of YtcidelejgpnloaaGreatDoorRows.lean that lists a variable, with what it lists TIED to the program's text (the seventh form; the later family's looks); each row that meets fmt, with fmt's text TOLD by the authors' own Lean function (tested against real Go, not proved from fmt's source: count such statements apart). THE CARD IS WHAT COUNTS. Prove the row's statement (the work); the ties are given (YtcidelejgpnloaaGreatDoorTie.lean); close each card by the builder's one call (the guide's Derived/Test/ToyasCard.lean, 'card_holds'). Laid BY PROGRAM, IN A SANDBOX (cutbox-door.mjs). By AI agents, Wed Nov 11 2026. No macro, syntax, notation, axiom, sorry.
-/
import Derived.Test.YtcidelejgpnloaaGreatDoorRows
import GoSem.ClaimSeven
namespace Go.Proofs.YtcidelejgpnloaaGreatDoor
namespace Rows

/-- THE TIED CARD OF 'quilllaw11.ValueAdds'. -/
def valueAddsCard : Claim7 := { stood := { row := valueAddsRow, standIns := [], harness := (true, "fae423ae8b0a41fd21a32dca3b0be795d56c86004cc11897f88e8f1ce7177cc9"), looks := true }, kinds := [], alts := [], laidByText := true, laidKinds := [.data, .data, .widerDeep, .widerDeep, .data, .data, .data, .data, .data, .data, .sentinel, .sentinel, .pinned, .pinned, .pinned], laidTests := true, laidLooks := .later }
def ValueAddsCardSaid : Prop := Claim7.holds Tryz.pinned (.plain (OpenSpec.ofChange valueAddsSpec)) valueAddsCard

/-- THE TIED CARD OF 'quilllaw11.ValueMakes'. -/
def valueMakesCard : Claim7 := { stood := { row := valueMakesRow, standIns := [], harness := (true, "fae423ae8b0a41fd21a32dca3b0be795d56c86004cc11897f88e8f1ce7177cc9"), looks := true }, kinds := [], alts := [], laidByText := true, laidKinds := [.data, .data, .widerDeep, .widerDeep, .data, .data, .data, .data, .data, .data, .sentinel, .sentinel, .pinned, .pinned, .pinned], laidTests := true, laidLooks := .later }
def ValueMakesCardSaid : Prop := Claim7.holds Tryz.pinned (.plain (OpenSpec.ofChange valueMakesSpec)) valueMakesCard

/-- THE TIED CARD OF 'quilllaw11.ValueChecks'. -/
def valueChecksCard : Claim7 := { stood := { row := valueChecksRow, standIns := [], harness := (true, "fae423ae8b0a41fd21a32dca3b0be795d56c86004cc11897f88e8f1ce7177cc9"), looks := true }, kinds := [], alts := [], laidByText := true, laidKinds := [.data, .data, .widerDeep, .widerDeep, .data, .data, .data, .data, .data, .data, .sentinel, .sentinel, .pinned, .pinned, .pinned], laidTests := true, laidLooks := .later }
def ValueChecksCardSaid : Prop := Claim7.holds Tryz.pinned (.plain (OpenSpec.ofChange valueChecksSpec)) valueChecksCard

/-- THE TIED CARD OF 'quilllaw11.ValueWays'. -/
def valueWaysCard : Claim7 := { stood := { row := valueWaysRow, standIns := [], harness := (true, "fae423ae8b0a41fd21a32dca3b0be795d56c86004cc11897f88e8f1ce7177cc9"), looks := true }, kinds := [], alts := [], laidByText := true, laidKinds := [.data, .data, .widerDeep, .widerDeep, .data, .data, .data, .data, .data, .data, .sentinel, .sentinel, .pinned, .pinned, .pinned], laidTests := true, laidLooks := .later }
def ValueWaysCardSaid : Prop := Claim7.holds Tryz.pinned (.plain (OpenSpec.ofChange valueWaysSpec)) valueWaysCard

/-- THE SECOND FORM's CARD OF 'quilllaw11.ValueAdds'. -/
def valueAddsUptoCard : Claim7 := { stood := { row := valueAddsUptoRow, standIns := [], harness := (true, "fae423ae8b0a41fd21a32dca3b0be795d56c86004cc11897f88e8f1ce7177cc9"), looks := true }, kinds := [], alts := [], laidByText := true, laidKinds := [.data, .data, .widerDeep, .widerDeep, .data, .data, .data, .data, .data, .data, .sentinel, .sentinel, .pinned, .pinned, .pinned], laidTests := true, laidLooks := .later }
def ValueAddsUptoCardSaid : Prop := Claim7.holds Tryz.pinned (.plain (OpenSpec.upto valueAddsSpec)) valueAddsUptoCard

/-- THE SECOND FORM's CARD OF 'quilllaw11.ValueMakes'. -/
def valueMakesUptoCard : Claim7 := { stood := { row := valueMakesUptoRow, standIns := [], harness := (true, "fae423ae8b0a41fd21a32dca3b0be795d56c86004cc11897f88e8f1ce7177cc9"), looks := true }, kinds := [], alts := [], laidByText := true, laidKinds := [.data, .data, .widerDeep, .widerDeep, .data, .data, .data, .data, .data, .data, .sentinel, .sentinel, .pinned, .pinned, .pinned], laidTests := true, laidLooks := .later }
def ValueMakesUptoCardSaid : Prop := Claim7.holds Tryz.pinned (.plain (OpenSpec.upto valueMakesSpec)) valueMakesUptoCard

/-- THE SECOND FORM's CARD OF 'quilllaw11.ValueChecks'. -/
def valueChecksUptoCard : Claim7 := { stood := { row := valueChecksUptoRow, standIns := [], harness := (true, "fae423ae8b0a41fd21a32dca3b0be795d56c86004cc11897f88e8f1ce7177cc9"), looks := true }, kinds := [], alts := [], laidByText := true, laidKinds := [.data, .data, .widerDeep, .widerDeep, .data, .data, .data, .data, .data, .data, .sentinel, .sentinel, .pinned, .pinned, .pinned], laidTests := true, laidLooks := .later }
def ValueChecksUptoCardSaid : Prop := Claim7.holds Tryz.pinned (.plain (OpenSpec.upto valueChecksSpec)) valueChecksUptoCard

/-- THE SECOND FORM's CARD OF 'quilllaw11.ValueWays'. -/
def valueWaysUptoCard : Claim7 := { stood := { row := valueWaysUptoRow, standIns := [], harness := (true, "fae423ae8b0a41fd21a32dca3b0be795d56c86004cc11897f88e8f1ce7177cc9"), looks := true }, kinds := [], alts := [], laidByText := true, laidKinds := [.data, .data, .widerDeep, .widerDeep, .data, .data, .data, .data, .data, .data, .sentinel, .sentinel, .pinned, .pinned, .pinned], laidTests := true, laidLooks := .later }
def ValueWaysUptoCardSaid : Prop := Claim7.holds Tryz.pinned (.plain (OpenSpec.upto valueWaysSpec)) valueWaysUptoCard
end Rows
end Go.Proofs.YtcidelejgpnloaaGreatDoor
