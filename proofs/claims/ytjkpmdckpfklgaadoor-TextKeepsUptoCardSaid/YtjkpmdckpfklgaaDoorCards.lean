/-
  DERIVED. GIVEN WITH THE SEED: THE CARDS: each row of YtjkpmdckpfklgaaDoorRows.lean that lists a variable, with what it lists TIED to the program's text (the seventh form; the later family's looks); each row that meets fmt, with fmt's text TOLD by the authors' own Lean function (tested against real Go, not proved from fmt's source: count such statements apart). THE CARD IS WHAT COUNTS. Prove the row's statement (the work); the ties are given (YtjkpmdckpfklgaaDoorTie.lean); close each card by the builder's one call (the guide's Derived/Test/ToyasCard.lean, 'card_holds'). Laid BY PROGRAM, IN A SANDBOX (cutbox-door.mjs). By AI agents, Wed Nov 11 2026. No macro, syntax, notation, axiom, sorry.
-/
import Derived.Test.YtjkpmdckpfklgaaDoorRows
import GoSem.ClaimSeven
namespace Go.Proofs.YtjkpmdckpfklgaaDoor
namespace Rows

/-- THE TIED CARD OF 'foliolaw02.TextCodes'. -/
def textCodesCard : Claim7 := { stood := { row := textCodesRow, standIns := [], harness := (true, "8c8dde4292ec04d3c3837dae72dc7e10ee3ed6aba0adfd054577f654be4b69bb"), looks := false }, kinds := [], alts := [], laidByText := true, laidKinds := [.data, .pinned], laidTests := true, laidLooks := .later }
def TextCodesCardSaid : Prop := Claim7.holds Tryd.pinned (.plain (OpenSpec.ofChange textCodesSpec)) textCodesCard

/-- THE TIED CARD OF 'foliolaw02.TextCells'. -/
def textCellsCard : Claim7 := { stood := { row := textCellsRow, standIns := [], harness := (true, "8c8dde4292ec04d3c3837dae72dc7e10ee3ed6aba0adfd054577f654be4b69bb"), looks := false }, kinds := [], alts := [], laidByText := true, laidKinds := [.data, .pinned], laidTests := true, laidLooks := .later }
def TextCellsCardSaid : Prop := Claim7.holds Tryd.pinned (.plain (OpenSpec.ofChange textCellsSpec)) textCellsCard

/-- THE TIED CARD OF 'foliolaw02.TextWide'. -/
def textWideCard : Claim7 := { stood := { row := textWideRow, standIns := [], harness := (true, "8c8dde4292ec04d3c3837dae72dc7e10ee3ed6aba0adfd054577f654be4b69bb"), looks := false }, kinds := [], alts := [], laidByText := true, laidKinds := [.data, .pinned], laidTests := true, laidLooks := .later }
def TextWideCardSaid : Prop := Claim7.holds Tryd.pinned (.plain (OpenSpec.ofChange textWideSpec)) textWideCard

/-- THE TIED CARD OF 'foliolaw02.TextTotal'. -/
def textTotalCard : Claim7 := { stood := { row := textTotalRow, standIns := [], harness := (true, "8c8dde4292ec04d3c3837dae72dc7e10ee3ed6aba0adfd054577f654be4b69bb"), looks := false }, kinds := [], alts := [], laidByText := true, laidKinds := [.data, .pinned], laidTests := true, laidLooks := .later }
def TextTotalCardSaid : Prop := Claim7.holds Tryd.pinned (.plain (OpenSpec.ofChange textTotalSpec)) textTotalCard

/-- THE TIED CARD OF 'foliolaw02.TextFolds'. -/
def textFoldsCard : Claim7 := { stood := { row := textFoldsRow, standIns := [], harness := (true, "8c8dde4292ec04d3c3837dae72dc7e10ee3ed6aba0adfd054577f654be4b69bb"), looks := false }, kinds := [], alts := [], laidByText := true, laidKinds := [.data, .pinned], laidTests := true, laidLooks := .later }
def TextFoldsCardSaid : Prop := Claim7.holds Tryd.pinned (.plain (OpenSpec.ofChange textFoldsSpec)) textFoldsCard

/-- THE TIED CARD OF 'foliolaw02.TextWords'. -/
def textWordsCard : Claim7 := { stood := { row := textWordsRow, standIns := [], harness := (true, "8c8dde4292ec04d3c3837dae72dc7e10ee3ed6aba0adfd054577f654be4b69bb"), looks := false }, kinds := [], alts := [], laidByText := true, laidKinds := [.data, .pinned], laidTests := true, laidLooks := .later }
def TextWordsCardSaid : Prop := Claim7.holds Tryd.pinned (.plain (OpenSpec.ofChange textWordsSpec)) textWordsCard

/-- THE TIED CARD OF 'foliolaw02.TextOrders'. -/
def textOrdersCard : Claim7 := { stood := { row := textOrdersRow, standIns := [], harness := (true, "8c8dde4292ec04d3c3837dae72dc7e10ee3ed6aba0adfd054577f654be4b69bb"), looks := false }, kinds := [], alts := [], laidByText := true, laidKinds := [.data, .pinned], laidTests := true, laidLooks := .later }
def TextOrdersCardSaid : Prop := Claim7.holds Tryd.pinned (.plain (OpenSpec.ofChange textOrdersSpec)) textOrdersCard

/-- THE TIED CARD OF 'foliolaw02.TextChars'. -/
def textCharsCard : Claim7 := { stood := { row := textCharsRow, standIns := [], harness := (true, "8c8dde4292ec04d3c3837dae72dc7e10ee3ed6aba0adfd054577f654be4b69bb"), looks := false }, kinds := [], alts := [], laidByText := true, laidKinds := [.data, .pinned], laidTests := true, laidLooks := .later }
def TextCharsCardSaid : Prop := Claim7.holds Tryd.pinned (.plain (OpenSpec.ofChange textCharsSpec)) textCharsCard

/-- THE TIED CARD OF 'foliolaw02.TextNumbers'. -/
def textNumbersCard : Claim7 := { stood := { row := textNumbersRow, standIns := [], harness := (true, "8c8dde4292ec04d3c3837dae72dc7e10ee3ed6aba0adfd054577f654be4b69bb"), looks := false }, kinds := [], alts := [], laidByText := true, laidKinds := [.data, .pinned], laidTests := true, laidLooks := .later }
def TextNumbersCardSaid : Prop := Claim7.holds Tryd.pinned (.plain (OpenSpec.ofChange textNumbersSpec)) textNumbersCard

/-- THE TIED CARD OF 'foliolaw02.TextKeeps'. -/
def textKeepsCard : Claim7 := { stood := { row := textKeepsRow, standIns := [], harness := (true, "8c8dde4292ec04d3c3837dae72dc7e10ee3ed6aba0adfd054577f654be4b69bb"), looks := false }, kinds := [], alts := [], laidByText := true, laidKinds := [.data, .pinned], laidTests := true, laidLooks := .later }
def TextKeepsCardSaid : Prop := Claim7.holds Tryd.pinned (.plain (OpenSpec.ofChange textKeepsSpec)) textKeepsCard

/-- THE SECOND FORM's CARD OF 'foliolaw02.TextCodes'. -/
def textCodesUptoCard : Claim7 := { stood := { row := textCodesUptoRow, standIns := [], harness := (true, "8c8dde4292ec04d3c3837dae72dc7e10ee3ed6aba0adfd054577f654be4b69bb"), looks := false }, kinds := [], alts := [], laidByText := true, laidKinds := [.data, .pinned], laidTests := true, laidLooks := .later }
def TextCodesUptoCardSaid : Prop := Claim7.holds Tryd.pinned (.plain (OpenSpec.upto textCodesSpec)) textCodesUptoCard

/-- THE SECOND FORM's CARD OF 'foliolaw02.TextCells'. -/
def textCellsUptoCard : Claim7 := { stood := { row := textCellsUptoRow, standIns := [], harness := (true, "8c8dde4292ec04d3c3837dae72dc7e10ee3ed6aba0adfd054577f654be4b69bb"), looks := false }, kinds := [], alts := [], laidByText := true, laidKinds := [.data, .pinned], laidTests := true, laidLooks := .later }
def TextCellsUptoCardSaid : Prop := Claim7.holds Tryd.pinned (.plain (OpenSpec.upto textCellsSpec)) textCellsUptoCard

/-- THE SECOND FORM's CARD OF 'foliolaw02.TextWide'. -/
def textWideUptoCard : Claim7 := { stood := { row := textWideUptoRow, standIns := [], harness := (true, "8c8dde4292ec04d3c3837dae72dc7e10ee3ed6aba0adfd054577f654be4b69bb"), looks := false }, kinds := [], alts := [], laidByText := true, laidKinds := [.data, .pinned], laidTests := true, laidLooks := .later }
def TextWideUptoCardSaid : Prop := Claim7.holds Tryd.pinned (.plain (OpenSpec.upto textWideSpec)) textWideUptoCard

/-- THE SECOND FORM's CARD OF 'foliolaw02.TextTotal'. -/
def textTotalUptoCard : Claim7 := { stood := { row := textTotalUptoRow, standIns := [], harness := (true, "8c8dde4292ec04d3c3837dae72dc7e10ee3ed6aba0adfd054577f654be4b69bb"), looks := false }, kinds := [], alts := [], laidByText := true, laidKinds := [.data, .pinned], laidTests := true, laidLooks := .later }
def TextTotalUptoCardSaid : Prop := Claim7.holds Tryd.pinned (.plain (OpenSpec.upto textTotalSpec)) textTotalUptoCard

/-- THE SECOND FORM's CARD OF 'foliolaw02.TextFolds'. -/
def textFoldsUptoCard : Claim7 := { stood := { row := textFoldsUptoRow, standIns := [], harness := (true, "8c8dde4292ec04d3c3837dae72dc7e10ee3ed6aba0adfd054577f654be4b69bb"), looks := false }, kinds := [], alts := [], laidByText := true, laidKinds := [.data, .pinned], laidTests := true, laidLooks := .later }
def TextFoldsUptoCardSaid : Prop := Claim7.holds Tryd.pinned (.plain (OpenSpec.upto textFoldsSpec)) textFoldsUptoCard

/-- THE SECOND FORM's CARD OF 'foliolaw02.TextWords'. -/
def textWordsUptoCard : Claim7 := { stood := { row := textWordsUptoRow, standIns := [], harness := (true, "8c8dde4292ec04d3c3837dae72dc7e10ee3ed6aba0adfd054577f654be4b69bb"), looks := false }, kinds := [], alts := [], laidByText := true, laidKinds := [.data, .pinned], laidTests := true, laidLooks := .later }
def TextWordsUptoCardSaid : Prop := Claim7.holds Tryd.pinned (.plain (OpenSpec.upto textWordsSpec)) textWordsUptoCard

/-- THE SECOND FORM's CARD OF 'foliolaw02.TextOrders'. -/
def textOrdersUptoCard : Claim7 := { stood := { row := textOrdersUptoRow, standIns := [], harness := (true, "8c8dde4292ec04d3c3837dae72dc7e10ee3ed6aba0adfd054577f654be4b69bb"), looks := false }, kinds := [], alts := [], laidByText := true, laidKinds := [.data, .pinned], laidTests := true, laidLooks := .later }
def TextOrdersUptoCardSaid : Prop := Claim7.holds Tryd.pinned (.plain (OpenSpec.upto textOrdersSpec)) textOrdersUptoCard

/-- THE SECOND FORM's CARD OF 'foliolaw02.TextChars'. -/
def textCharsUptoCard : Claim7 := { stood := { row := textCharsUptoRow, standIns := [], harness := (true, "8c8dde4292ec04d3c3837dae72dc7e10ee3ed6aba0adfd054577f654be4b69bb"), looks := false }, kinds := [], alts := [], laidByText := true, laidKinds := [.data, .pinned], laidTests := true, laidLooks := .later }
def TextCharsUptoCardSaid : Prop := Claim7.holds Tryd.pinned (.plain (OpenSpec.upto textCharsSpec)) textCharsUptoCard

/-- THE SECOND FORM's CARD OF 'foliolaw02.TextNumbers'. -/
def textNumbersUptoCard : Claim7 := { stood := { row := textNumbersUptoRow, standIns := [], harness := (true, "8c8dde4292ec04d3c3837dae72dc7e10ee3ed6aba0adfd054577f654be4b69bb"), looks := false }, kinds := [], alts := [], laidByText := true, laidKinds := [.data, .pinned], laidTests := true, laidLooks := .later }
def TextNumbersUptoCardSaid : Prop := Claim7.holds Tryd.pinned (.plain (OpenSpec.upto textNumbersSpec)) textNumbersUptoCard

/-- THE SECOND FORM's CARD OF 'foliolaw02.TextKeeps'. -/
def textKeepsUptoCard : Claim7 := { stood := { row := textKeepsUptoRow, standIns := [], harness := (true, "8c8dde4292ec04d3c3837dae72dc7e10ee3ed6aba0adfd054577f654be4b69bb"), looks := false }, kinds := [], alts := [], laidByText := true, laidKinds := [.data, .pinned], laidTests := true, laidLooks := .later }
def TextKeepsUptoCardSaid : Prop := Claim7.holds Tryd.pinned (.plain (OpenSpec.upto textKeepsSpec)) textKeepsUptoCard
end Rows
end Go.Proofs.YtjkpmdckpfklgaaDoor
