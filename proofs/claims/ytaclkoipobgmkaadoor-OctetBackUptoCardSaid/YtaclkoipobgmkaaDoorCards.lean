/-
  DERIVED. GIVEN WITH THE SEED: THE CARDS: each row of YtaclkoipobgmkaaDoorRows.lean that lists a variable, with what it lists TIED to the program's text (the seventh form; the later family's looks); each row that meets fmt, with fmt's text TOLD by the authors' own Lean function (tested against real Go, not proved from fmt's source: count such statements apart). THE CARD IS WHAT COUNTS. Prove the row's statement (the work); the ties are given (YtaclkoipobgmkaaDoorTie.lean); close each card by the builder's one call (the guide's Derived/Test/ToyasCard.lean, 'card_holds'). Laid BY PROGRAM, IN A SANDBOX (cutbox-door.mjs). By AI agents, Wed Nov 11 2026. No macro, syntax, notation, axiom, sorry.
-/
import Derived.Test.YtaclkoipobgmkaaDoorRows
import GoSem.ClaimSeven
namespace Go.Proofs.YtaclkoipobgmkaaDoor
namespace Rows

/-- THE TIED CARD OF 'foliolaw03.OctetOne'. -/
def octetOneCard : Claim7 := { stood := { row := octetOneRow, standIns := [], harness := (true, "a5c0ef60f7cb1656956b95c8459535c229cc639c403f59f5047f8f37e8f68d78"), looks := false }, kinds := [], alts := [], laidByText := true, laidKinds := [.data, .pinned], laidTests := true, laidLooks := .later }
def OctetOneCardSaid : Prop := Claim7.holds Tryd.pinned (.plain (OpenSpec.ofChange octetOneSpec)) octetOneCard

/-- THE TIED CARD OF 'foliolaw03.OctetBurst'. -/
def octetBurstCard : Claim7 := { stood := { row := octetBurstRow, standIns := [], harness := (true, "a5c0ef60f7cb1656956b95c8459535c229cc639c403f59f5047f8f37e8f68d78"), looks := false }, kinds := [], alts := [], laidByText := true, laidKinds := [.data, .pinned], laidTests := true, laidLooks := .later }
def OctetBurstCardSaid : Prop := Claim7.holds Tryd.pinned (.plain (OpenSpec.ofChange octetBurstSpec)) octetBurstCard

/-- THE TIED CARD OF 'foliolaw03.OctetSums'. -/
def octetSumsCard : Claim7 := { stood := { row := octetSumsRow, standIns := [], harness := (true, "a5c0ef60f7cb1656956b95c8459535c229cc639c403f59f5047f8f37e8f68d78"), looks := false }, kinds := [], alts := [], laidByText := true, laidKinds := [.data, .pinned], laidTests := true, laidLooks := .later }
def OctetSumsCardSaid : Prop := Claim7.holds Tryd.pinned (.plain (OpenSpec.ofChange octetSumsSpec)) octetSumsCard

/-- THE TIED CARD OF 'foliolaw03.OctetPuts'. -/
def octetPutsCard : Claim7 := { stood := { row := octetPutsRow, standIns := [], harness := (true, "a5c0ef60f7cb1656956b95c8459535c229cc639c403f59f5047f8f37e8f68d78"), looks := false }, kinds := [], alts := [], laidByText := true, laidKinds := [.data, .pinned], laidTests := true, laidLooks := .later }
def OctetPutsCardSaid : Prop := Claim7.holds Tryd.pinned (.plain (OpenSpec.ofChange octetPutsSpec)) octetPutsCard

/-- THE TIED CARD OF 'foliolaw03.OctetBack'. -/
def octetBackCard : Claim7 := { stood := { row := octetBackRow, standIns := [], harness := (true, "a5c0ef60f7cb1656956b95c8459535c229cc639c403f59f5047f8f37e8f68d78"), looks := false }, kinds := [], alts := [], laidByText := true, laidKinds := [.data, .pinned], laidTests := true, laidLooks := .later }
def OctetBackCardSaid : Prop := Claim7.holds Tryd.pinned (.plain (OpenSpec.ofChange octetBackSpec)) octetBackCard

/-- THE TIED CARD OF 'foliolaw03.OctetNone'. -/
def octetNoneCard : Claim7 := { stood := { row := octetNoneRow, standIns := [], harness := (true, "a5c0ef60f7cb1656956b95c8459535c229cc639c403f59f5047f8f37e8f68d78"), looks := false }, kinds := [], alts := [], laidByText := true, laidKinds := [.data, .pinned], laidTests := true, laidLooks := .later }
def OctetNoneCardSaid : Prop := Claim7.holds Tryd.pinned (.plain (OpenSpec.ofChange octetNoneSpec)) octetNoneCard

/-- THE SECOND FORM's CARD OF 'foliolaw03.OctetOne'. -/
def octetOneUptoCard : Claim7 := { stood := { row := octetOneUptoRow, standIns := [], harness := (true, "a5c0ef60f7cb1656956b95c8459535c229cc639c403f59f5047f8f37e8f68d78"), looks := false }, kinds := [], alts := [], laidByText := true, laidKinds := [.data, .pinned], laidTests := true, laidLooks := .later }
def OctetOneUptoCardSaid : Prop := Claim7.holds Tryd.pinned (.plain (OpenSpec.upto octetOneSpec)) octetOneUptoCard

/-- THE SECOND FORM's CARD OF 'foliolaw03.OctetBurst'. -/
def octetBurstUptoCard : Claim7 := { stood := { row := octetBurstUptoRow, standIns := [], harness := (true, "a5c0ef60f7cb1656956b95c8459535c229cc639c403f59f5047f8f37e8f68d78"), looks := false }, kinds := [], alts := [], laidByText := true, laidKinds := [.data, .pinned], laidTests := true, laidLooks := .later }
def OctetBurstUptoCardSaid : Prop := Claim7.holds Tryd.pinned (.plain (OpenSpec.upto octetBurstSpec)) octetBurstUptoCard

/-- THE SECOND FORM's CARD OF 'foliolaw03.OctetSums'. -/
def octetSumsUptoCard : Claim7 := { stood := { row := octetSumsUptoRow, standIns := [], harness := (true, "a5c0ef60f7cb1656956b95c8459535c229cc639c403f59f5047f8f37e8f68d78"), looks := false }, kinds := [], alts := [], laidByText := true, laidKinds := [.data, .pinned], laidTests := true, laidLooks := .later }
def OctetSumsUptoCardSaid : Prop := Claim7.holds Tryd.pinned (.plain (OpenSpec.upto octetSumsSpec)) octetSumsUptoCard

/-- THE SECOND FORM's CARD OF 'foliolaw03.OctetPuts'. -/
def octetPutsUptoCard : Claim7 := { stood := { row := octetPutsUptoRow, standIns := [], harness := (true, "a5c0ef60f7cb1656956b95c8459535c229cc639c403f59f5047f8f37e8f68d78"), looks := false }, kinds := [], alts := [], laidByText := true, laidKinds := [.data, .pinned], laidTests := true, laidLooks := .later }
def OctetPutsUptoCardSaid : Prop := Claim7.holds Tryd.pinned (.plain (OpenSpec.upto octetPutsSpec)) octetPutsUptoCard

/-- THE SECOND FORM's CARD OF 'foliolaw03.OctetBack'. -/
def octetBackUptoCard : Claim7 := { stood := { row := octetBackUptoRow, standIns := [], harness := (true, "a5c0ef60f7cb1656956b95c8459535c229cc639c403f59f5047f8f37e8f68d78"), looks := false }, kinds := [], alts := [], laidByText := true, laidKinds := [.data, .pinned], laidTests := true, laidLooks := .later }
def OctetBackUptoCardSaid : Prop := Claim7.holds Tryd.pinned (.plain (OpenSpec.upto octetBackSpec)) octetBackUptoCard

/-- THE SECOND FORM's CARD OF 'foliolaw03.OctetNone'. -/
def octetNoneUptoCard : Claim7 := { stood := { row := octetNoneUptoRow, standIns := [], harness := (true, "a5c0ef60f7cb1656956b95c8459535c229cc639c403f59f5047f8f37e8f68d78"), looks := false }, kinds := [], alts := [], laidByText := true, laidKinds := [.data, .pinned], laidTests := true, laidLooks := .later }
def OctetNoneUptoCardSaid : Prop := Claim7.holds Tryd.pinned (.plain (OpenSpec.upto octetNoneSpec)) octetNoneUptoCard
end Rows
end Go.Proofs.YtaclkoipobgmkaaDoor
