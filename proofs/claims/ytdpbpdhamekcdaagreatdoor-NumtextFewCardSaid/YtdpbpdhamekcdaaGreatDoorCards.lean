/-
  DERIVED. GIVEN WITH THE SEED: THE CARDS: each row of YtdpbpdhamekcdaaGreatDoorRows.lean that lists a variable, with what it lists TIED to the program's text (the seventh form; the later family's looks); each row that meets fmt, with fmt's text TOLD by the authors' own Lean function (tested against real Go, not proved from fmt's source: count such statements apart). THE CARD IS WHAT COUNTS. Prove the row's statement (the work); the ties are given (YtdpbpdhamekcdaaGreatDoorTie.lean); close each card by the builder's one call (the guide's Derived/Test/ToyasCard.lean, 'card_holds'). Laid BY PROGRAM, IN A SANDBOX (cutbox-door.mjs). By AI agents, Wed Nov 11 2026. No macro, syntax, notation, axiom, sorry.
-/
import Derived.Test.YtdpbpdhamekcdaaGreatDoorRows
import GoSem.ClaimSeven
namespace Go.Proofs.YtdpbpdhamekcdaaGreatDoor
namespace Rows

/-- THE TIED CARD OF 'quilllaw03.NumtextOrders'. -/
def numtextOrdersCard : Claim7 := { stood := { row := numtextOrdersRow, standIns := [], harness := (true, "e7295a950221d9e7cf035c576ce360927b75a051a087b6a4d5abcf8731dabbc7"), looks := true }, kinds := [], alts := [], laidByText := true, laidKinds := [.data, .data, .widerDeep, .widerDeep, .data, .data, .data, .data, .data, .data, .sentinel, .sentinel, .pinned, .pinned, .pinned], laidTests := true, laidLooks := .later }
def NumtextOrdersCardSaid : Prop := Claim7.holds Tryz.pinned (.plain (OpenSpec.ofChange numtextOrdersSpec)) numtextOrdersCard

/-- THE TIED CARD OF 'quilllaw03.NumtextTexts'. -/
def numtextTextsCard : Claim7 := { stood := { row := numtextTextsRow, standIns := [], harness := (true, "e7295a950221d9e7cf035c576ce360927b75a051a087b6a4d5abcf8731dabbc7"), looks := true }, kinds := [], alts := [], laidByText := true, laidKinds := [.data, .data, .widerDeep, .widerDeep, .data, .data, .data, .data, .data, .data, .sentinel, .sentinel, .pinned, .pinned, .pinned], laidTests := true, laidLooks := .later }
def NumtextTextsCardSaid : Prop := Claim7.holds Tryz.pinned (.plain (OpenSpec.ofChange numtextTextsSpec)) numtextTextsCard

/-- THE TIED CARD OF 'quilllaw03.NumtextBack'. -/
def numtextBackCard : Claim7 := { stood := { row := numtextBackRow, standIns := [], harness := (true, "e7295a950221d9e7cf035c576ce360927b75a051a087b6a4d5abcf8731dabbc7"), looks := true }, kinds := [], alts := [], laidByText := true, laidKinds := [.data, .data, .widerDeep, .widerDeep, .data, .data, .data, .data, .data, .data, .sentinel, .sentinel, .pinned, .pinned, .pinned], laidTests := true, laidLooks := .later }
def NumtextBackCardSaid : Prop := Claim7.holds Tryz.pinned (.plain (OpenSpec.ofChange numtextBackSpec)) numtextBackCard

/-- THE TIED CARD OF 'quilllaw11.ValueAdds'. -/
def valueAddsCard : Claim7 := { stood := { row := valueAddsRow, standIns := [], harness := (true, "e7295a950221d9e7cf035c576ce360927b75a051a087b6a4d5abcf8731dabbc7"), looks := true }, kinds := [], alts := [], laidByText := true, laidKinds := [.data, .data, .widerDeep, .widerDeep, .data, .data, .data, .data, .data, .data, .sentinel, .sentinel, .pinned, .pinned, .pinned], laidTests := true, laidLooks := .later }
def ValueAddsCardSaid : Prop := Claim7.holds Tryz.pinned (.plain (OpenSpec.ofChange valueAddsSpec)) valueAddsCard

/-- THE TIED CARD OF 'quilllaw11.ValueWays'. -/
def valueWaysCard : Claim7 := { stood := { row := valueWaysRow, standIns := [], harness := (true, "e7295a950221d9e7cf035c576ce360927b75a051a087b6a4d5abcf8731dabbc7"), looks := true }, kinds := [], alts := [], laidByText := true, laidKinds := [.data, .data, .widerDeep, .widerDeep, .data, .data, .data, .data, .data, .data, .sentinel, .sentinel, .pinned, .pinned, .pinned], laidTests := true, laidLooks := .later }
def ValueWaysCardSaid : Prop := Claim7.holds Tryz.pinned (.plain (OpenSpec.ofChange valueWaysSpec)) valueWaysCard

/-- THE TIED CARD OF 'quilllaw03.NumtextRadix'. -/
def numtextRadixCard : Claim7 := { stood := { row := numtextRadixRow, standIns := [], harness := (true, "e7295a950221d9e7cf035c576ce360927b75a051a087b6a4d5abcf8731dabbc7"), looks := true }, kinds := [], alts := [], laidByText := true, laidKinds := [.data, .data, .widerDeep, .widerDeep, .data, .data, .data, .data, .data, .data, .sentinel, .sentinel, .pinned, .pinned, .pinned], laidTests := true, laidLooks := .later }
def NumtextRadixCardSaid : Prop := Claim7.holds Tryz.pinned (.plain (OpenSpec.ofChange numtextRadixSpec)) numtextRadixCard

/-- THE TIED CARD OF 'quilllaw03.NumtextFixed'. -/
def numtextFixedCard : Claim7 := { stood := { row := numtextFixedRow, standIns := [], harness := (true, "e7295a950221d9e7cf035c576ce360927b75a051a087b6a4d5abcf8731dabbc7"), looks := true }, kinds := [], alts := [], laidByText := true, laidKinds := [.data, .data, .widerDeep, .widerDeep, .data, .data, .data, .data, .data, .data, .sentinel, .sentinel, .pinned, .pinned, .pinned], laidTests := true, laidLooks := .later }
def NumtextFixedCardSaid : Prop := Claim7.holds Tryz.pinned (.plain (OpenSpec.ofChange numtextFixedSpec)) numtextFixedCard

/-- THE TIED CARD OF 'quilllaw03.NumtextFew'. -/
def numtextFewCard : Claim7 := { stood := { row := numtextFewRow, standIns := [], harness := (true, "e7295a950221d9e7cf035c576ce360927b75a051a087b6a4d5abcf8731dabbc7"), looks := true }, kinds := [], alts := [], laidByText := true, laidKinds := [.data, .data, .widerDeep, .widerDeep, .data, .data, .data, .data, .data, .data, .sentinel, .sentinel, .pinned, .pinned, .pinned], laidTests := true, laidLooks := .later }
def NumtextFewCardSaid : Prop := Claim7.holds Tryz.pinned (.plain (OpenSpec.ofChange numtextFewSpec)) numtextFewCard

/-- THE TIED CARD OF 'quilllaw03.NumtextExponents'. -/
def numtextExponentsCard : Claim7 := { stood := { row := numtextExponentsRow, standIns := [], harness := (true, "e7295a950221d9e7cf035c576ce360927b75a051a087b6a4d5abcf8731dabbc7"), looks := true }, kinds := [], alts := [], laidByText := true, laidKinds := [.data, .data, .widerDeep, .widerDeep, .data, .data, .data, .data, .data, .data, .sentinel, .sentinel, .pinned, .pinned, .pinned], laidTests := true, laidLooks := .later }
def NumtextExponentsCardSaid : Prop := Claim7.holds Tryz.pinned (.plain (OpenSpec.ofChange numtextExponentsSpec)) numtextExponentsCard

/-- THE SECOND FORM's CARD OF 'quilllaw03.NumtextOrders'. -/
def numtextOrdersUptoCard : Claim7 := { stood := { row := numtextOrdersUptoRow, standIns := [], harness := (true, "e7295a950221d9e7cf035c576ce360927b75a051a087b6a4d5abcf8731dabbc7"), looks := true }, kinds := [], alts := [], laidByText := true, laidKinds := [.data, .data, .widerDeep, .widerDeep, .data, .data, .data, .data, .data, .data, .sentinel, .sentinel, .pinned, .pinned, .pinned], laidTests := true, laidLooks := .later }
def NumtextOrdersUptoCardSaid : Prop := Claim7.holds Tryz.pinned (.plain (OpenSpec.upto numtextOrdersSpec)) numtextOrdersUptoCard

/-- THE SECOND FORM's CARD OF 'quilllaw03.NumtextTexts'. -/
def numtextTextsUptoCard : Claim7 := { stood := { row := numtextTextsUptoRow, standIns := [], harness := (true, "e7295a950221d9e7cf035c576ce360927b75a051a087b6a4d5abcf8731dabbc7"), looks := true }, kinds := [], alts := [], laidByText := true, laidKinds := [.data, .data, .widerDeep, .widerDeep, .data, .data, .data, .data, .data, .data, .sentinel, .sentinel, .pinned, .pinned, .pinned], laidTests := true, laidLooks := .later }
def NumtextTextsUptoCardSaid : Prop := Claim7.holds Tryz.pinned (.plain (OpenSpec.upto numtextTextsSpec)) numtextTextsUptoCard

/-- THE SECOND FORM's CARD OF 'quilllaw03.NumtextBack'. -/
def numtextBackUptoCard : Claim7 := { stood := { row := numtextBackUptoRow, standIns := [], harness := (true, "e7295a950221d9e7cf035c576ce360927b75a051a087b6a4d5abcf8731dabbc7"), looks := true }, kinds := [], alts := [], laidByText := true, laidKinds := [.data, .data, .widerDeep, .widerDeep, .data, .data, .data, .data, .data, .data, .sentinel, .sentinel, .pinned, .pinned, .pinned], laidTests := true, laidLooks := .later }
def NumtextBackUptoCardSaid : Prop := Claim7.holds Tryz.pinned (.plain (OpenSpec.upto numtextBackSpec)) numtextBackUptoCard

/-- THE SECOND FORM's CARD OF 'quilllaw11.ValueAdds'. -/
def valueAddsUptoCard : Claim7 := { stood := { row := valueAddsUptoRow, standIns := [], harness := (true, "e7295a950221d9e7cf035c576ce360927b75a051a087b6a4d5abcf8731dabbc7"), looks := true }, kinds := [], alts := [], laidByText := true, laidKinds := [.data, .data, .widerDeep, .widerDeep, .data, .data, .data, .data, .data, .data, .sentinel, .sentinel, .pinned, .pinned, .pinned], laidTests := true, laidLooks := .later }
def ValueAddsUptoCardSaid : Prop := Claim7.holds Tryz.pinned (.plain (OpenSpec.upto valueAddsSpec)) valueAddsUptoCard

/-- THE SECOND FORM's CARD OF 'quilllaw11.ValueWays'. -/
def valueWaysUptoCard : Claim7 := { stood := { row := valueWaysUptoRow, standIns := [], harness := (true, "e7295a950221d9e7cf035c576ce360927b75a051a087b6a4d5abcf8731dabbc7"), looks := true }, kinds := [], alts := [], laidByText := true, laidKinds := [.data, .data, .widerDeep, .widerDeep, .data, .data, .data, .data, .data, .data, .sentinel, .sentinel, .pinned, .pinned, .pinned], laidTests := true, laidLooks := .later }
def ValueWaysUptoCardSaid : Prop := Claim7.holds Tryz.pinned (.plain (OpenSpec.upto valueWaysSpec)) valueWaysUptoCard

/-- THE SECOND FORM's CARD OF 'quilllaw03.NumtextRadix'. -/
def numtextRadixUptoCard : Claim7 := { stood := { row := numtextRadixUptoRow, standIns := [], harness := (true, "e7295a950221d9e7cf035c576ce360927b75a051a087b6a4d5abcf8731dabbc7"), looks := true }, kinds := [], alts := [], laidByText := true, laidKinds := [.data, .data, .widerDeep, .widerDeep, .data, .data, .data, .data, .data, .data, .sentinel, .sentinel, .pinned, .pinned, .pinned], laidTests := true, laidLooks := .later }
def NumtextRadixUptoCardSaid : Prop := Claim7.holds Tryz.pinned (.plain (OpenSpec.upto numtextRadixSpec)) numtextRadixUptoCard

/-- THE SECOND FORM's CARD OF 'quilllaw03.NumtextFixed'. -/
def numtextFixedUptoCard : Claim7 := { stood := { row := numtextFixedUptoRow, standIns := [], harness := (true, "e7295a950221d9e7cf035c576ce360927b75a051a087b6a4d5abcf8731dabbc7"), looks := true }, kinds := [], alts := [], laidByText := true, laidKinds := [.data, .data, .widerDeep, .widerDeep, .data, .data, .data, .data, .data, .data, .sentinel, .sentinel, .pinned, .pinned, .pinned], laidTests := true, laidLooks := .later }
def NumtextFixedUptoCardSaid : Prop := Claim7.holds Tryz.pinned (.plain (OpenSpec.upto numtextFixedSpec)) numtextFixedUptoCard

/-- THE SECOND FORM's CARD OF 'quilllaw03.NumtextFew'. -/
def numtextFewUptoCard : Claim7 := { stood := { row := numtextFewUptoRow, standIns := [], harness := (true, "e7295a950221d9e7cf035c576ce360927b75a051a087b6a4d5abcf8731dabbc7"), looks := true }, kinds := [], alts := [], laidByText := true, laidKinds := [.data, .data, .widerDeep, .widerDeep, .data, .data, .data, .data, .data, .data, .sentinel, .sentinel, .pinned, .pinned, .pinned], laidTests := true, laidLooks := .later }
def NumtextFewUptoCardSaid : Prop := Claim7.holds Tryz.pinned (.plain (OpenSpec.upto numtextFewSpec)) numtextFewUptoCard

/-- THE SECOND FORM's CARD OF 'quilllaw03.NumtextExponents'. -/
def numtextExponentsUptoCard : Claim7 := { stood := { row := numtextExponentsUptoRow, standIns := [], harness := (true, "e7295a950221d9e7cf035c576ce360927b75a051a087b6a4d5abcf8731dabbc7"), looks := true }, kinds := [], alts := [], laidByText := true, laidKinds := [.data, .data, .widerDeep, .widerDeep, .data, .data, .data, .data, .data, .data, .sentinel, .sentinel, .pinned, .pinned, .pinned], laidTests := true, laidLooks := .later }
def NumtextExponentsUptoCardSaid : Prop := Claim7.holds Tryz.pinned (.plain (OpenSpec.upto numtextExponentsSpec)) numtextExponentsUptoCard
end Rows
end Go.Proofs.YtdpbpdhamekcdaaGreatDoor
