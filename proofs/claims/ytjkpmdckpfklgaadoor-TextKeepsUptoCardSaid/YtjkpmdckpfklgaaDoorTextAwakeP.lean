/-
  TEXT, AWAKE: the chapter's examples, plain.
-/
import Derived.Test.YtjkpmdckpfklgaaDoorTextFold
import Derived.Test.YtjkpmdckpfklgaaDoorTextCompare4
namespace Go.Proofs.YtjkpmdckpfklgaaDoor
open Go.RowKit

def sW : ByteArray := ⟨#[32, 97, 32, 32, 98, 99]⟩
def sC : ByteArray := ⟨#[101, 204, 129, 228, 184, 173]⟩
def sA : ByteArray := ⟨#[97, 50]⟩
def sB : ByteArray := ⟨#[97, 49, 48]⟩
def sF : ByteArray := ⟨#[32, 32, 195, 132, 32, 32, 66]⟩
theorem words_W : wordsS sW = [⟨1, 2, wideS (sW.extract 1 2)⟩, ⟨4, 6, wideS (sW.extract 4 6)⟩] := by
  unfold wordsS
  rw [wordsGo_cut (by decide) (fun _ => by kernel_rfl), wordsGo_in (by decide) (by kernel_rfl), wordsGo_cut (by decide) (fun _ => by kernel_rfl), wordsGo_cut (by decide) (fun _ => by kernel_rfl), wordsGo_in (by decide) (by kernel_rfl),
    wordsGo_in (by decide) (by kernel_rfl), wordsGo_cut (by decide) (fun h => absurd h (by decide)), wordsGo_end (by decide)]
  rfl
theorem wid97 : widC 97 = 1 := by kernel_rfl
theorem wid20013 : widC 20013 = 2 := by kernel_rfl
theorem wid769 : widC 769 = 0 := by kernel_rfl
theorem wid101 : widC 101 = 1 := by kernel_rfl
theorem cells_C : cellsL sC.data.toList = [⟨0, 3, 1⟩, ⟨3, 6, 2⟩] := by
  have r0 : chR sC.data.toList 0 = 101 := by kernel_rfl
  have n0 : chN sC.data.toList 0 = 1 := by kernel_rfl
  have r1 : chR sC.data.toList 1 = 769 := by kernel_rfl
  have n1 : chN sC.data.toList 1 = 2 := by kernel_rfl
  have r3 : chR sC.data.toList 3 = 20013 := by kernel_rfl
  have n3 : chN sC.data.toList 3 = 3 := by kernel_rfl
  unfold cellsL
  rw [cellsGo_on (by decide), r0, n0, show widC ((101 : Nat) : Int) = 1 from wid101, cellsGo_on (by decide), show 0 + 1 = 1 from rfl, r1, n1, show widC ((769 : Nat) : Int) = 0 from wid769, cellsGo_on (by decide), show 1 + 2 = 3 from rfl, r3, n3, show widC ((20013 : Nat) : Int) = 2 from wid20013, cellsGo_end (by decide)]
  rfl
theorem base97 : baseEls 97 = [⟨2, 97, ⟨#[]⟩⟩] := by
  have hb : (baseC ((97 : Nat) : Int)).data.toList = [97] := by kernel_rfl
  unfold baseEls
  rw [hb, charsAt_on (by decide), show chN [97] 0 = 1 from by kernel_rfl, charsAt_end (by decide)]
  rfl
theorem els_A : elsS sA = [⟨2, 97, ⟨#[]⟩⟩, ⟨1, 0, trimN sA 1 2⟩] := by
  have h0 : elStep sA 0 = ([⟨2, 97, ⟨#[]⟩⟩], 1) := by
    unfold elStep
    rw [if_neg (show ¬ 0 < dgAt sA 0 from by decide), show chR sA.data.toList 0 = 97 from by kernel_rfl, show chN sA.data.toList 0 = 1 from by kernel_rfl, if_neg (by rw [show widC ((97 : Nat) : Int) = 1 from wid97]; decide), base97]
  have h1 : elStep sA 1 = ([⟨1, 0, trimN sA 1 2⟩], 2) := by
    unfold elStep
    rw [if_pos (show 0 < dgAt sA 1 from by decide), show dgAt sA 1 = 1 from by kernel_rfl]
  unfold elsS
  rw [elsGo_on (by decide), h0, elsGo_on (by decide), h1, elsGo_end (by decide)]
  rfl
theorem els_B : elsS sB = [⟨2, 97, ⟨#[]⟩⟩, ⟨1, 0, trimN sB 1 3⟩] := by
  have h0 : elStep sB 0 = ([⟨2, 97, ⟨#[]⟩⟩], 1) := by
    unfold elStep
    rw [if_neg (show ¬ 0 < dgAt sB 0 from by decide), show chR sB.data.toList 0 = 97 from by kernel_rfl, show chN sB.data.toList 0 = 1 from by kernel_rfl, if_neg (by rw [show widC ((97 : Nat) : Int) = 1 from wid97]; decide), base97]
  have h1 : elStep sB 1 = ([⟨1, 0, trimN sB 1 3⟩], 3) := by
    unfold elStep
    rw [if_pos (show 0 < dgAt sB 1 from by decide), show dgAt sB 1 = 2 from by kernel_rfl]
  unfold elsS
  rw [elsGo_on (by decide), h0, elsGo_on (by decide), h1, elsGo_end (by decide)]
  rfl
theorem cmp_AB : compareT sA sB = -1 := by
  have h : lexL cmpEl (elsS sA) (elsS sB) = -1 := by rw [els_A, els_B]; kernel_rfl
  unfold compareT
  rw [if_neg (by decide), h]
  rfl
theorem fold_F : foldS sF = ⟨#[195, 164, 32, 98]⟩ := by
  have f2 : foldC sF 2 = [195, 164] := by kernel_rfl
  have f6 : foldC sF 6 = [98] := by kernel_rfl
  have n2 : chN sF.data.toList 2 = 2 := by kernel_rfl
  have n6 : chN sF.data.toList 6 = 1 := by kernel_rfl
  have h : foldB sF = [195, 164, 32, 98] := by
    unfold foldB
    rw [foldGo_sp (by decide) (by kernel_rfl), foldGo_sp (by decide) (by kernel_rfl), foldGo_on (by decide) (by rw [show chR sF.data.toList 2 = 196 from by kernel_rfl]; decide), f2, n2, foldGo_sp (by decide) (by kernel_rfl), foldGo_sp (by decide) (by kernel_rfl),
      foldGo_on (by decide) (by rw [show chR sF.data.toList 6 = 66 from by kernel_rfl]; decide), f6, n6, foldGo_end (by decide)]
    rfl
  unfold foldS
  rw [h]
end Go.Proofs.YtjkpmdckpfklgaaDoor
