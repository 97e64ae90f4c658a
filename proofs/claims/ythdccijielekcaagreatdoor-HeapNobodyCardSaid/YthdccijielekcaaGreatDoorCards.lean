/-
  DERIVED. GIVEN WITH THE SEED: THE CARDS: each row of YthdccijielekcaaGreatDoorRows.lean that lists a variable, with what it lists TIED to the program's text (the seventh form; the later family's looks); each row that meets fmt, with fmt's text TOLD by the authors' own Lean function (tested against real Go, not proved from fmt's source: count such statements apart). THE CARD IS WHAT COUNTS. Prove the row's statement (the work); the ties are given (YthdccijielekcaaGreatDoorTie.lean); close each card by the builder's one call (the guide's Derived/Test/ToyasCard.lean, 'card_holds'). Laid BY PROGRAM, IN A SANDBOX (cutbox-door.mjs). By AI agents, Wed Nov 11 2026. No macro, syntax, notation, axiom, sorry.
-/
import Derived.Test.YthdccijielekcaaGreatDoorRows
import GoSem.ClaimSeven
namespace Go.Proofs.YthdccijielekcaaGreatDoor
namespace Rows

/-- THE TIED CARD OF 'quilllaw17.OperateLong'. -/
def operateLongCard : Claim7 := { stood := { row := operateLongRow, standIns := [], harness := (true, "2b198db3a23850dd556463413eef654bc72b288edc7c32a21fbbaf8c5054e61b"), looks := true }, kinds := [], alts := [], laidByText := true, laidKinds := [.data, .data, .widerDeep, .widerDeep, .data, .data, .data, .data, .data, .data, .sentinel, .sentinel, .pinned, .pinned, .pinned], laidTests := true, laidLooks := .later }
def OperateLongCardSaid : Prop := Claim7.holds Tryz.pinned (.plain (OpenSpec.ofChange operateLongSpec)) operateLongCard

/-- THE TIED CARD OF 'quilllaw13.HeapNobody'. -/
def heapNobodyCard : Claim7 := { stood := { row := heapNobodyRow, standIns := [], harness := (true, "2b198db3a23850dd556463413eef654bc72b288edc7c32a21fbbaf8c5054e61b"), looks := true }, kinds := [], alts := [], laidByText := true, laidKinds := [.data, .data, .widerDeep, .widerDeep, .data, .data, .data, .data, .data, .data, .sentinel, .sentinel, .pinned, .pinned, .pinned], laidTests := true, laidLooks := .later }
def HeapNobodyCardSaid : Prop := Claim7.holds Tryz.pinned (.plain (OpenSpec.ofChange heapNobodySpec)) heapNobodyCard

/-- THE TIED CARD OF 'quilllaw16.ConvertTells'. -/
def convertTellsCard : Claim7 := { stood := { row := convertTellsRow, standIns := [], harness := (true, "2b198db3a23850dd556463413eef654bc72b288edc7c32a21fbbaf8c5054e61b"), looks := true }, kinds := [], alts := [], laidByText := true, laidKinds := [.data, .data, .widerDeep, .widerDeep, .data, .data, .data, .data, .data, .data, .sentinel, .sentinel, .pinned, .pinned, .pinned], laidTests := true, laidLooks := .later }
def ConvertTellsCardSaid : Prop := Claim7.holds Tryz.pinned (.plain (OpenSpec.ofChange convertTellsSpec)) convertTellsCard

/-- THE TIED CARD OF 'quilllaw15.EnvHides'. -/
def envHidesCard : Claim7 := { stood := { row := envHidesRow, standIns := [], harness := (true, "2b198db3a23850dd556463413eef654bc72b288edc7c32a21fbbaf8c5054e61b"), looks := true }, kinds := [], alts := [], laidByText := true, laidKinds := [.data, .data, .widerDeep, .widerDeep, .data, .data, .data, .data, .data, .data, .sentinel, .sentinel, .pinned, .pinned, .pinned], laidTests := true, laidLooks := .later }
def EnvHidesCardSaid : Prop := Claim7.holds Tryz.pinned (.plain (OpenSpec.ofChange envHidesSpec)) envHidesCard

/-- THE SECOND FORM's CARD OF 'quilllaw17.OperateLong'. -/
def operateLongUptoCard : Claim7 := { stood := { row := operateLongUptoRow, standIns := [], harness := (true, "2b198db3a23850dd556463413eef654bc72b288edc7c32a21fbbaf8c5054e61b"), looks := true }, kinds := [], alts := [], laidByText := true, laidKinds := [.data, .data, .widerDeep, .widerDeep, .data, .data, .data, .data, .data, .data, .sentinel, .sentinel, .pinned, .pinned, .pinned], laidTests := true, laidLooks := .later }
def OperateLongUptoCardSaid : Prop := Claim7.holds Tryz.pinned (.plain (OpenSpec.upto operateLongSpec)) operateLongUptoCard

/-- THE SECOND FORM's CARD OF 'quilllaw13.HeapNobody'. -/
def heapNobodyUptoCard : Claim7 := { stood := { row := heapNobodyUptoRow, standIns := [], harness := (true, "2b198db3a23850dd556463413eef654bc72b288edc7c32a21fbbaf8c5054e61b"), looks := true }, kinds := [], alts := [], laidByText := true, laidKinds := [.data, .data, .widerDeep, .widerDeep, .data, .data, .data, .data, .data, .data, .sentinel, .sentinel, .pinned, .pinned, .pinned], laidTests := true, laidLooks := .later }
def HeapNobodyUptoCardSaid : Prop := Claim7.holds Tryz.pinned (.plain (OpenSpec.upto heapNobodySpec)) heapNobodyUptoCard

/-- THE SECOND FORM's CARD OF 'quilllaw16.ConvertTells'. -/
def convertTellsUptoCard : Claim7 := { stood := { row := convertTellsUptoRow, standIns := [], harness := (true, "2b198db3a23850dd556463413eef654bc72b288edc7c32a21fbbaf8c5054e61b"), looks := true }, kinds := [], alts := [], laidByText := true, laidKinds := [.data, .data, .widerDeep, .widerDeep, .data, .data, .data, .data, .data, .data, .sentinel, .sentinel, .pinned, .pinned, .pinned], laidTests := true, laidLooks := .later }
def ConvertTellsUptoCardSaid : Prop := Claim7.holds Tryz.pinned (.plain (OpenSpec.upto convertTellsSpec)) convertTellsUptoCard

/-- THE SECOND FORM's CARD OF 'quilllaw15.EnvHides'. -/
def envHidesUptoCard : Claim7 := { stood := { row := envHidesUptoRow, standIns := [], harness := (true, "2b198db3a23850dd556463413eef654bc72b288edc7c32a21fbbaf8c5054e61b"), looks := true }, kinds := [], alts := [], laidByText := true, laidKinds := [.data, .data, .widerDeep, .widerDeep, .data, .data, .data, .data, .data, .data, .sentinel, .sentinel, .pinned, .pinned, .pinned], laidTests := true, laidLooks := .later }
def EnvHidesUptoCardSaid : Prop := Claim7.holds Tryz.pinned (.plain (OpenSpec.upto envHidesSpec)) envHidesUptoCard
end Rows
end Go.Proofs.YthdccijielekcaaGreatDoor
