/-
  DERIVED. GIVEN WITH THE SEED: THE CARDS: each row of YtkaoipegbjmlnaaDoorRows.lean that lists a variable, with what it lists TIED to the program's text (the seventh form; the later family's looks); each row that meets fmt, with fmt's text TOLD by the authors' own Lean function (tested against real Go, not proved from fmt's source: count such statements apart). THE CARD IS WHAT COUNTS. Prove the row's statement (the work); the ties are given (YtkaoipegbjmlnaaDoorTie.lean); close each card by the builder's one call (the guide's Derived/Test/ToyasCard.lean, 'card_holds'). Laid BY PROGRAM, IN A SANDBOX (cutbox-door.mjs). By AI agents, Wed Nov 11 2026. No macro, syntax, notation, axiom, sorry.
-/
import Derived.Test.YtkaoipegbjmlnaaDoorRows
import GoSem.ClaimSeven
namespace Go.Proofs.YtkaoipegbjmlnaaDoor
namespace Rows

/-- THE TIED CARD OF 'foliolaw08.LinkRefs'. -/
def linkRefsCard : Claim7 := { stood := { row := linkRefsRow, standIns := [], harness := (true, "bb484fd3508ad939d7b2fd128cca4fa5f95cf40adde76bcb13fce216661c92ab"), looks := true }, kinds := [], alts := [], laidByText := true, laidKinds := [.data, .pinned], laidTests := true, laidLooks := .later }
def LinkRefsCardSaid : Prop := Claim7.holds Tryd.pinned (.plain (OpenSpec.ofChange linkRefsSpec)) linkRefsCard

/-- THE TIED CARD OF 'foliolaw08.LinkAll'. -/
def linkAllCard : Claim7 := { stood := { row := linkAllRow, standIns := [], harness := (true, "bb484fd3508ad939d7b2fd128cca4fa5f95cf40adde76bcb13fce216661c92ab"), looks := true }, kinds := [], alts := [], laidByText := true, laidKinds := [.data, .pinned], laidTests := true, laidLooks := .later }
def LinkAllCardSaid : Prop := Claim7.holds Tryd.pinned (.plain (OpenSpec.ofChange linkAllSpec)) linkAllCard

/-- THE SECOND FORM's CARD OF 'foliolaw08.LinkRefs'. -/
def linkRefsUptoCard : Claim7 := { stood := { row := linkRefsUptoRow, standIns := [], harness := (true, "bb484fd3508ad939d7b2fd128cca4fa5f95cf40adde76bcb13fce216661c92ab"), looks := true }, kinds := [], alts := [], laidByText := true, laidKinds := [.data, .pinned], laidTests := true, laidLooks := .later }
def LinkRefsUptoCardSaid : Prop := Claim7.holds Tryd.pinned (.plain (OpenSpec.upto linkRefsSpec)) linkRefsUptoCard

/-- THE SECOND FORM's CARD OF 'foliolaw08.LinkAll'. -/
def linkAllUptoCard : Claim7 := { stood := { row := linkAllUptoRow, standIns := [], harness := (true, "bb484fd3508ad939d7b2fd128cca4fa5f95cf40adde76bcb13fce216661c92ab"), looks := true }, kinds := [], alts := [], laidByText := true, laidKinds := [.data, .pinned], laidTests := true, laidLooks := .later }
def LinkAllUptoCardSaid : Prop := Claim7.holds Tryd.pinned (.plain (OpenSpec.upto linkAllSpec)) linkAllUptoCard
end Rows
end Go.Proofs.YtkaoipegbjmlnaaDoor
