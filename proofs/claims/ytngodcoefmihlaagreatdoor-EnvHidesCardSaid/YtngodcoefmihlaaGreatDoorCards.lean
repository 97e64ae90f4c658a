/-
  DERIVED. GIVEN WITH THE SEED: THE CARDS: each row of YtngodcoefmihlaaGreatDoorRows.lean that lists a variable, with what it lists TIED to the program's text (the seventh form; the later family's looks); each row that meets fmt, with fmt's text TOLD by the authors' own Lean function (tested against real Go, not proved from fmt's source: count such statements apart). THE CARD IS WHAT COUNTS. Prove the row's statement (the work); the ties are given (YtngodcoefmihlaaGreatDoorTie.lean); close each card by the builder's one call (the guide's Derived/Test/ToyasCard.lean, 'card_holds'). Laid BY PROGRAM, IN A SANDBOX (cutbox-door.mjs). By AI agents, Wed Nov 11 2026. No macro, syntax, notation, axiom, sorry.
-/
import Derived.Test.YtngodcoefmihlaaGreatDoorRows
import GoSem.ClaimSeven
namespace Go.Proofs.YtngodcoefmihlaaGreatDoor
namespace Rows

/-- THE TIED CARD OF 'quilllaw18.FunctionLists'. -/
def functionListsCard : Claim7 := { stood := { row := functionListsRow, standIns := [], harness := (true, "cadbaba49b16f0ad282a2b89bd2a41764a000c511e8bea01a18137e6ac03c3ee"), looks := true }, kinds := [], alts := [], laidByText := true, laidKinds := [.data, .data, .widerDeep, .widerDeep, .data, .data, .data, .data, .data, .data, .sentinel, .sentinel, .pinned, .pinned, .pinned], laidTests := true, laidLooks := .later }
def FunctionListsCardSaid : Prop := Claim7.holds Tryz.pinned (.plain (OpenSpec.ofChange functionListsSpec)) functionListsCard

/-- THE TIED CARD OF 'quilllaw18.FunctionBinds'. -/
def functionBindsCard : Claim7 := { stood := { row := functionBindsRow, standIns := [], harness := (true, "cadbaba49b16f0ad282a2b89bd2a41764a000c511e8bea01a18137e6ac03c3ee"), looks := true }, kinds := [], alts := [], laidByText := true, laidKinds := [.data, .data, .widerDeep, .widerDeep, .data, .data, .data, .data, .data, .data, .sentinel, .sentinel, .pinned, .pinned, .pinned], laidTests := true, laidLooks := .later }
def FunctionBindsCardSaid : Prop := Claim7.holds Tryz.pinned (.plain (OpenSpec.ofChange functionBindsSpec)) functionBindsCard

/-- THE TIED CARD OF 'quilllaw16.ConvertTells'. -/
def convertTellsCard : Claim7 := { stood := { row := convertTellsRow, standIns := [], harness := (true, "cadbaba49b16f0ad282a2b89bd2a41764a000c511e8bea01a18137e6ac03c3ee"), looks := true }, kinds := [], alts := [], laidByText := true, laidKinds := [.data, .data, .widerDeep, .widerDeep, .data, .data, .data, .data, .data, .data, .sentinel, .sentinel, .pinned, .pinned, .pinned], laidTests := true, laidLooks := .later }
def ConvertTellsCardSaid : Prop := Claim7.holds Tryz.pinned (.plain (OpenSpec.ofChange convertTellsSpec)) convertTellsCard

/-- THE TIED CARD OF 'quilllaw15.EnvHides'. -/
def envHidesCard : Claim7 := { stood := { row := envHidesRow, standIns := [], harness := (true, "cadbaba49b16f0ad282a2b89bd2a41764a000c511e8bea01a18137e6ac03c3ee"), looks := true }, kinds := [], alts := [], laidByText := true, laidKinds := [.data, .data, .widerDeep, .widerDeep, .data, .data, .data, .data, .data, .data, .sentinel, .sentinel, .pinned, .pinned, .pinned], laidTests := true, laidLooks := .later }
def EnvHidesCardSaid : Prop := Claim7.holds Tryz.pinned (.plain (OpenSpec.ofChange envHidesSpec)) envHidesCard

/-- THE SECOND FORM's CARD OF 'quilllaw18.FunctionLists'. -/
def functionListsUptoCard : Claim7 := { stood := { row := functionListsUptoRow, standIns := [], harness := (true, "cadbaba49b16f0ad282a2b89bd2a41764a000c511e8bea01a18137e6ac03c3ee"), looks := true }, kinds := [], alts := [], laidByText := true, laidKinds := [.data, .data, .widerDeep, .widerDeep, .data, .data, .data, .data, .data, .data, .sentinel, .sentinel, .pinned, .pinned, .pinned], laidTests := true, laidLooks := .later }
def FunctionListsUptoCardSaid : Prop := Claim7.holds Tryz.pinned (.plain (OpenSpec.upto functionListsSpec)) functionListsUptoCard

/-- THE SECOND FORM's CARD OF 'quilllaw18.FunctionBinds'. -/
def functionBindsUptoCard : Claim7 := { stood := { row := functionBindsUptoRow, standIns := [], harness := (true, "cadbaba49b16f0ad282a2b89bd2a41764a000c511e8bea01a18137e6ac03c3ee"), looks := true }, kinds := [], alts := [], laidByText := true, laidKinds := [.data, .data, .widerDeep, .widerDeep, .data, .data, .data, .data, .data, .data, .sentinel, .sentinel, .pinned, .pinned, .pinned], laidTests := true, laidLooks := .later }
def FunctionBindsUptoCardSaid : Prop := Claim7.holds Tryz.pinned (.plain (OpenSpec.upto functionBindsSpec)) functionBindsUptoCard

/-- THE SECOND FORM's CARD OF 'quilllaw16.ConvertTells'. -/
def convertTellsUptoCard : Claim7 := { stood := { row := convertTellsUptoRow, standIns := [], harness := (true, "cadbaba49b16f0ad282a2b89bd2a41764a000c511e8bea01a18137e6ac03c3ee"), looks := true }, kinds := [], alts := [], laidByText := true, laidKinds := [.data, .data, .widerDeep, .widerDeep, .data, .data, .data, .data, .data, .data, .sentinel, .sentinel, .pinned, .pinned, .pinned], laidTests := true, laidLooks := .later }
def ConvertTellsUptoCardSaid : Prop := Claim7.holds Tryz.pinned (.plain (OpenSpec.upto convertTellsSpec)) convertTellsUptoCard

/-- THE SECOND FORM's CARD OF 'quilllaw15.EnvHides'. -/
def envHidesUptoCard : Claim7 := { stood := { row := envHidesUptoRow, standIns := [], harness := (true, "cadbaba49b16f0ad282a2b89bd2a41764a000c511e8bea01a18137e6ac03c3ee"), looks := true }, kinds := [], alts := [], laidByText := true, laidKinds := [.data, .data, .widerDeep, .widerDeep, .data, .data, .data, .data, .data, .data, .sentinel, .sentinel, .pinned, .pinned, .pinned], laidTests := true, laidLooks := .later }
def EnvHidesUptoCardSaid : Prop := Claim7.holds Tryz.pinned (.plain (OpenSpec.upto envHidesSpec)) envHidesUptoCard
end Rows
end Go.Proofs.YtngodcoefmihlaaGreatDoor
