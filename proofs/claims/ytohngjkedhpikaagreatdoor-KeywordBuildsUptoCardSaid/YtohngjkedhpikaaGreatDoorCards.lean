/-
  DERIVED. GIVEN WITH THE SEED: THE CARDS: each row of YtohngjkedhpikaaGreatDoorRows.lean that lists a variable, with what it lists TIED to the program's text (the seventh form; the later family's looks); each row that meets fmt, with fmt's text TOLD by the authors' own Lean function (tested against real Go, not proved from fmt's source: count such statements apart). THE CARD IS WHAT COUNTS. Prove the row's statement (the work); the ties are given (YtohngjkedhpikaaGreatDoorTie.lean); close each card by the builder's one call (the guide's Derived/Test/ToyasCard.lean, 'card_holds'). Laid BY PROGRAM, IN A SANDBOX (cutbox-door.mjs). By AI agents, Wed Nov 11 2026. No macro, syntax, notation, axiom, sorry.
-/
import Derived.Test.YtohngjkedhpikaaGreatDoorRows
import GoSem.ClaimSeven
namespace Go.Proofs.YtohngjkedhpikaaGreatDoor
namespace Rows

/-- THE TIED CARD OF 'foliolaw09.KeywordAll'. -/
def keywordAllCard : Claim7 := { stood := { row := keywordAllRow, standIns := [], harness := (true, "3bbfdc2ced7b3d913f2e8d6dc0f535ea3e237df466b7459429569f6140a51b4b"), looks := true }, kinds := [], alts := [], laidByText := true, laidKinds := [.data, .pinned], laidTests := true, laidLooks := .later }
def KeywordAllCardSaid : Prop := Claim7.holds Tryz.pinned (.plain (OpenSpec.ofChange keywordAllSpec)) keywordAllCard

/-- THE TIED CARD OF 'foliolaw09.KeywordOrders'. -/
def keywordOrdersCard : Claim7 := { stood := { row := keywordOrdersRow, standIns := [], harness := (true, "3bbfdc2ced7b3d913f2e8d6dc0f535ea3e237df466b7459429569f6140a51b4b"), looks := true }, kinds := [], alts := [], laidByText := true, laidKinds := [.data, .pinned], laidTests := true, laidLooks := .later }
def KeywordOrdersCardSaid : Prop := Claim7.holds Tryz.pinned (.plain (OpenSpec.ofChange keywordOrdersSpec)) keywordOrdersCard

/-- THE TIED CARD OF 'foliolaw09.KeywordHeadings'. -/
def keywordHeadingsCard : Claim7 := { stood := { row := keywordHeadingsRow, standIns := [], harness := (true, "3bbfdc2ced7b3d913f2e8d6dc0f535ea3e237df466b7459429569f6140a51b4b"), looks := true }, kinds := [], alts := [], laidByText := true, laidKinds := [.data, .pinned], laidTests := true, laidLooks := .later }
def KeywordHeadingsCardSaid : Prop := Claim7.holds Tryz.pinned (.plain (OpenSpec.ofChange keywordHeadingsSpec)) keywordHeadingsCard

/-- THE TIED CARD OF 'foliolaw09.KeywordFollows'. -/
def keywordFollowsCard : Claim7 := { stood := { row := keywordFollowsRow, standIns := [], harness := (true, "3bbfdc2ced7b3d913f2e8d6dc0f535ea3e237df466b7459429569f6140a51b4b"), looks := true }, kinds := [], alts := [], laidByText := true, laidKinds := [.data, .pinned], laidTests := true, laidLooks := .later }
def KeywordFollowsCardSaid : Prop := Claim7.holds Tryz.pinned (.plain (OpenSpec.ofChange keywordFollowsSpec)) keywordFollowsCard

/-- THE TIED CARD OF 'foliolaw09.KeywordAsks'. -/
def keywordAsksCard : Claim7 := { stood := { row := keywordAsksRow, standIns := [], harness := (true, "3bbfdc2ced7b3d913f2e8d6dc0f535ea3e237df466b7459429569f6140a51b4b"), looks := true }, kinds := [], alts := [], laidByText := true, laidKinds := [.data, .pinned], laidTests := true, laidLooks := .later }
def KeywordAsksCardSaid : Prop := Claim7.holds Tryz.pinned (.plain (OpenSpec.ofChange keywordAsksSpec)) keywordAsksCard

/-- THE TIED CARD OF 'foliolaw09.KeywordBuilds'. -/
def keywordBuildsCard : Claim7 := { stood := { row := keywordBuildsRow, standIns := [], harness := (true, "3bbfdc2ced7b3d913f2e8d6dc0f535ea3e237df466b7459429569f6140a51b4b"), looks := true }, kinds := [], alts := [], laidByText := true, laidKinds := [.data, .pinned], laidTests := true, laidLooks := .later }
def KeywordBuildsCardSaid : Prop := Claim7.holds Tryz.pinned (.plain (OpenSpec.ofChange keywordBuildsSpec)) keywordBuildsCard

/-- THE SECOND FORM's CARD OF 'foliolaw09.KeywordAll'. -/
def keywordAllUptoCard : Claim7 := { stood := { row := keywordAllUptoRow, standIns := [], harness := (true, "3bbfdc2ced7b3d913f2e8d6dc0f535ea3e237df466b7459429569f6140a51b4b"), looks := true }, kinds := [], alts := [], laidByText := true, laidKinds := [.data, .pinned], laidTests := true, laidLooks := .later }
def KeywordAllUptoCardSaid : Prop := Claim7.holds Tryz.pinned (.plain (OpenSpec.upto keywordAllSpec)) keywordAllUptoCard

/-- THE SECOND FORM's CARD OF 'foliolaw09.KeywordOrders'. -/
def keywordOrdersUptoCard : Claim7 := { stood := { row := keywordOrdersUptoRow, standIns := [], harness := (true, "3bbfdc2ced7b3d913f2e8d6dc0f535ea3e237df466b7459429569f6140a51b4b"), looks := true }, kinds := [], alts := [], laidByText := true, laidKinds := [.data, .pinned], laidTests := true, laidLooks := .later }
def KeywordOrdersUptoCardSaid : Prop := Claim7.holds Tryz.pinned (.plain (OpenSpec.upto keywordOrdersSpec)) keywordOrdersUptoCard

/-- THE SECOND FORM's CARD OF 'foliolaw09.KeywordHeadings'. -/
def keywordHeadingsUptoCard : Claim7 := { stood := { row := keywordHeadingsUptoRow, standIns := [], harness := (true, "3bbfdc2ced7b3d913f2e8d6dc0f535ea3e237df466b7459429569f6140a51b4b"), looks := true }, kinds := [], alts := [], laidByText := true, laidKinds := [.data, .pinned], laidTests := true, laidLooks := .later }
def KeywordHeadingsUptoCardSaid : Prop := Claim7.holds Tryz.pinned (.plain (OpenSpec.upto keywordHeadingsSpec)) keywordHeadingsUptoCard

/-- THE SECOND FORM's CARD OF 'foliolaw09.KeywordFollows'. -/
def keywordFollowsUptoCard : Claim7 := { stood := { row := keywordFollowsUptoRow, standIns := [], harness := (true, "3bbfdc2ced7b3d913f2e8d6dc0f535ea3e237df466b7459429569f6140a51b4b"), looks := true }, kinds := [], alts := [], laidByText := true, laidKinds := [.data, .pinned], laidTests := true, laidLooks := .later }
def KeywordFollowsUptoCardSaid : Prop := Claim7.holds Tryz.pinned (.plain (OpenSpec.upto keywordFollowsSpec)) keywordFollowsUptoCard

/-- THE SECOND FORM's CARD OF 'foliolaw09.KeywordAsks'. -/
def keywordAsksUptoCard : Claim7 := { stood := { row := keywordAsksUptoRow, standIns := [], harness := (true, "3bbfdc2ced7b3d913f2e8d6dc0f535ea3e237df466b7459429569f6140a51b4b"), looks := true }, kinds := [], alts := [], laidByText := true, laidKinds := [.data, .pinned], laidTests := true, laidLooks := .later }
def KeywordAsksUptoCardSaid : Prop := Claim7.holds Tryz.pinned (.plain (OpenSpec.upto keywordAsksSpec)) keywordAsksUptoCard

/-- THE SECOND FORM's CARD OF 'foliolaw09.KeywordBuilds'. -/
def keywordBuildsUptoCard : Claim7 := { stood := { row := keywordBuildsUptoRow, standIns := [], harness := (true, "3bbfdc2ced7b3d913f2e8d6dc0f535ea3e237df466b7459429569f6140a51b4b"), looks := true }, kinds := [], alts := [], laidByText := true, laidKinds := [.data, .pinned], laidTests := true, laidLooks := .later }
def KeywordBuildsUptoCardSaid : Prop := Claim7.holds Tryz.pinned (.plain (OpenSpec.upto keywordBuildsSpec)) keywordBuildsUptoCard
end Rows
end Go.Proofs.YtohngjkedhpikaaGreatDoor
