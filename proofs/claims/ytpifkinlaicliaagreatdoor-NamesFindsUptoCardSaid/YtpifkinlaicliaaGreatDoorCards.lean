/-
  DERIVED. GIVEN WITH THE SEED: THE CARDS: each row of YtpifkinlaicliaaGreatDoorRows.lean that lists a variable, with what it lists TIED to the program's text (the seventh form; the later family's looks); each row that meets fmt, with fmt's text TOLD by the authors' own Lean function (tested against real Go, not proved from fmt's source: count such statements apart). THE CARD IS WHAT COUNTS. Prove the row's statement (the work); the ties are given (YtpifkinlaicliaaGreatDoorTie.lean); close each card by the builder's one call (the guide's Derived/Test/ToyasCard.lean, 'card_holds'). Laid BY PROGRAM, IN A SANDBOX (cutbox-door.mjs). By AI agents, Wed Nov 11 2026. No macro, syntax, notation, axiom, sorry.
-/
import Derived.Test.YtpifkinlaicliaaGreatDoorRows
import GoSem.ClaimSeven
namespace Go.Proofs.YtpifkinlaicliaaGreatDoor
namespace Rows

/-- THE TIED CARD OF 'foliolaw07.NamesFinds'. -/
def namesFindsCard : Claim7 := { stood := { row := namesFindsRow, standIns := [], harness := (true, "ffc94df2bd206b56a414820f1a009435fd06a6a4f5b9503c5520d40cd75e5e27"), looks := true }, kinds := [], alts := [], laidByText := true, laidKinds := [.data, .pinned], laidTests := true, laidLooks := .later }
def NamesFindsCardSaid : Prop := Claim7.holds Tryz.pinned (.plain (OpenSpec.ofChange namesFindsSpec)) namesFindsCard

/-- THE TIED CARD OF 'foliolaw07.NamesNorms'. -/
def namesNormsCard : Claim7 := { stood := { row := namesNormsRow, standIns := [], harness := (true, "ffc94df2bd206b56a414820f1a009435fd06a6a4f5b9503c5520d40cd75e5e27"), looks := true }, kinds := [], alts := [], laidByText := true, laidKinds := [.data, .pinned], laidTests := true, laidLooks := .later }
def NamesNormsCardSaid : Prop := Claim7.holds Tryz.pinned (.plain (OpenSpec.ofChange namesNormsSpec)) namesNormsCard

/-- THE SECOND FORM's CARD OF 'foliolaw07.NamesFinds'. -/
def namesFindsUptoCard : Claim7 := { stood := { row := namesFindsUptoRow, standIns := [], harness := (true, "ffc94df2bd206b56a414820f1a009435fd06a6a4f5b9503c5520d40cd75e5e27"), looks := true }, kinds := [], alts := [], laidByText := true, laidKinds := [.data, .pinned], laidTests := true, laidLooks := .later }
def NamesFindsUptoCardSaid : Prop := Claim7.holds Tryz.pinned (.plain (OpenSpec.upto namesFindsSpec)) namesFindsUptoCard

/-- THE SECOND FORM's CARD OF 'foliolaw07.NamesNorms'. -/
def namesNormsUptoCard : Claim7 := { stood := { row := namesNormsUptoRow, standIns := [], harness := (true, "ffc94df2bd206b56a414820f1a009435fd06a6a4f5b9503c5520d40cd75e5e27"), looks := true }, kinds := [], alts := [], laidByText := true, laidKinds := [.data, .pinned], laidTests := true, laidLooks := .later }
def NamesNormsUptoCardSaid : Prop := Claim7.holds Tryz.pinned (.plain (OpenSpec.upto namesNormsSpec)) namesNormsUptoCard
end Rows
end Go.Proofs.YtpifkinlaicliaaGreatDoor
