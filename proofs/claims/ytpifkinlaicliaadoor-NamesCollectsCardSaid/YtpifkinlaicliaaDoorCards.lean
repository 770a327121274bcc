/-
  DERIVED. GIVEN WITH THE SEED: THE CARDS: each row of YtpifkinlaicliaaDoorRows.lean that lists a variable, with what it lists TIED to the program's text (the seventh form; the later family's looks); each row that meets fmt, with fmt's text TOLD by the authors' own Lean function (tested against real Go, not proved from fmt's source: count such statements apart). THE CARD IS WHAT COUNTS. Prove the row's statement (the work); the ties are given (YtpifkinlaicliaaDoorTie.lean); close each card by the builder's one call (the guide's Derived/Test/ToyasCard.lean, 'card_holds'). Laid BY PROGRAM, IN A SANDBOX (cutbox-door.mjs). By AI agents, Wed Nov 11 2026. No macro, syntax, notation, axiom, sorry.
-/
import Derived.Test.YtpifkinlaicliaaDoorRows
import GoSem.ClaimSeven
namespace Go.Proofs.YtpifkinlaicliaaDoor
namespace Rows

/-- THE TIED CARD OF 'foliolaw07.NamesFound'. -/
def namesFoundCard : Claim7 := { stood := { row := namesFoundRow, standIns := [], harness := (true, "1beedd1132a686a25e7ae52e3677f0d6f199feda670560098a02824194861676"), looks := false }, kinds := [], alts := [], laidByText := true, laidKinds := [.data, .pinned], laidTests := true, laidLooks := .later }
def NamesFoundCardSaid : Prop := Claim7.holds Tryd.pinned (.plain (OpenSpec.ofChange namesFoundSpec)) namesFoundCard

/-- THE TIED CARD OF 'foliolaw07.NamesOrder'. -/
def namesOrderCard : Claim7 := { stood := { row := namesOrderRow, standIns := [], harness := (true, "1beedd1132a686a25e7ae52e3677f0d6f199feda670560098a02824194861676"), looks := false }, kinds := [], alts := [], laidByText := true, laidKinds := [.data, .pinned], laidTests := true, laidLooks := .later }
def NamesOrderCardSaid : Prop := Claim7.holds Tryd.pinned (.plain (OpenSpec.ofChange namesOrderSpec)) namesOrderCard

/-- THE TIED CARD OF 'foliolaw07.NamesApart'. -/
def namesApartCard : Claim7 := { stood := { row := namesApartRow, standIns := [], harness := (true, "1beedd1132a686a25e7ae52e3677f0d6f199feda670560098a02824194861676"), looks := false }, kinds := [], alts := [], laidByText := true, laidKinds := [.data, .pinned], laidTests := true, laidLooks := .later }
def NamesApartCardSaid : Prop := Claim7.holds Tryd.pinned (.plain (OpenSpec.ofChange namesApartSpec)) namesApartCard

/-- THE TIED CARD OF 'foliolaw07.NamesNear'. -/
def namesNearCard : Claim7 := { stood := { row := namesNearRow, standIns := [], harness := (true, "1beedd1132a686a25e7ae52e3677f0d6f199feda670560098a02824194861676"), looks := false }, kinds := [], alts := [], laidByText := true, laidKinds := [.data, .pinned], laidTests := true, laidLooks := .later }
def NamesNearCardSaid : Prop := Claim7.holds Tryd.pinned (.plain (OpenSpec.ofChange namesNearSpec)) namesNearCard

/-- THE TIED CARD OF 'foliolaw07.NamesNone'. -/
def namesNoneCard : Claim7 := { stood := { row := namesNoneRow, standIns := [], harness := (true, "1beedd1132a686a25e7ae52e3677f0d6f199feda670560098a02824194861676"), looks := false }, kinds := [], alts := [], laidByText := true, laidKinds := [.data, .pinned], laidTests := true, laidLooks := .later }
def NamesNoneCardSaid : Prop := Claim7.holds Tryd.pinned (.plain (OpenSpec.ofChange namesNoneSpec)) namesNoneCard

/-- THE TIED CARD OF 'foliolaw07.NamesCollects'. -/
def namesCollectsCard : Claim7 := { stood := { row := namesCollectsRow, standIns := [], harness := (true, "1beedd1132a686a25e7ae52e3677f0d6f199feda670560098a02824194861676"), looks := false }, kinds := [], alts := [], laidByText := true, laidKinds := [.data, .pinned], laidTests := true, laidLooks := .later }
def NamesCollectsCardSaid : Prop := Claim7.holds Tryd.pinned (.plain (OpenSpec.ofChange namesCollectsSpec)) namesCollectsCard

/-- THE SECOND FORM's CARD OF 'foliolaw07.NamesFound'. -/
def namesFoundUptoCard : Claim7 := { stood := { row := namesFoundUptoRow, standIns := [], harness := (true, "1beedd1132a686a25e7ae52e3677f0d6f199feda670560098a02824194861676"), looks := false }, kinds := [], alts := [], laidByText := true, laidKinds := [.data, .pinned], laidTests := true, laidLooks := .later }
def NamesFoundUptoCardSaid : Prop := Claim7.holds Tryd.pinned (.plain (OpenSpec.upto namesFoundSpec)) namesFoundUptoCard

/-- THE SECOND FORM's CARD OF 'foliolaw07.NamesOrder'. -/
def namesOrderUptoCard : Claim7 := { stood := { row := namesOrderUptoRow, standIns := [], harness := (true, "1beedd1132a686a25e7ae52e3677f0d6f199feda670560098a02824194861676"), looks := false }, kinds := [], alts := [], laidByText := true, laidKinds := [.data, .pinned], laidTests := true, laidLooks := .later }
def NamesOrderUptoCardSaid : Prop := Claim7.holds Tryd.pinned (.plain (OpenSpec.upto namesOrderSpec)) namesOrderUptoCard

/-- THE SECOND FORM's CARD OF 'foliolaw07.NamesApart'. -/
def namesApartUptoCard : Claim7 := { stood := { row := namesApartUptoRow, standIns := [], harness := (true, "1beedd1132a686a25e7ae52e3677f0d6f199feda670560098a02824194861676"), looks := false }, kinds := [], alts := [], laidByText := true, laidKinds := [.data, .pinned], laidTests := true, laidLooks := .later }
def NamesApartUptoCardSaid : Prop := Claim7.holds Tryd.pinned (.plain (OpenSpec.upto namesApartSpec)) namesApartUptoCard

/-- THE SECOND FORM's CARD OF 'foliolaw07.NamesNear'. -/
def namesNearUptoCard : Claim7 := { stood := { row := namesNearUptoRow, standIns := [], harness := (true, "1beedd1132a686a25e7ae52e3677f0d6f199feda670560098a02824194861676"), looks := false }, kinds := [], alts := [], laidByText := true, laidKinds := [.data, .pinned], laidTests := true, laidLooks := .later }
def NamesNearUptoCardSaid : Prop := Claim7.holds Tryd.pinned (.plain (OpenSpec.upto namesNearSpec)) namesNearUptoCard

/-- THE SECOND FORM's CARD OF 'foliolaw07.NamesNone'. -/
def namesNoneUptoCard : Claim7 := { stood := { row := namesNoneUptoRow, standIns := [], harness := (true, "1beedd1132a686a25e7ae52e3677f0d6f199feda670560098a02824194861676"), looks := false }, kinds := [], alts := [], laidByText := true, laidKinds := [.data, .pinned], laidTests := true, laidLooks := .later }
def NamesNoneUptoCardSaid : Prop := Claim7.holds Tryd.pinned (.plain (OpenSpec.upto namesNoneSpec)) namesNoneUptoCard

/-- THE SECOND FORM's CARD OF 'foliolaw07.NamesCollects'. -/
def namesCollectsUptoCard : Claim7 := { stood := { row := namesCollectsUptoRow, standIns := [], harness := (true, "1beedd1132a686a25e7ae52e3677f0d6f199feda670560098a02824194861676"), looks := false }, kinds := [], alts := [], laidByText := true, laidKinds := [.data, .pinned], laidTests := true, laidLooks := .later }
def NamesCollectsUptoCardSaid : Prop := Claim7.holds Tryd.pinned (.plain (OpenSpec.upto namesCollectsSpec)) namesCollectsUptoCard
end Rows
end Go.Proofs.YtpifkinlaicliaaDoor
