/-
  TEXT, WORDS.
-/
import Derived.Test.YtpifkinlaicliaaDoorZTextWide
import Derived.Deep.RegionHeld3
import Derived.Deep.AppendLies
import Derived.Deep.RegionLaw
namespace Go.Proofs.YtpifkinlaicliaaDoor
open Go.RowKit
attribute [local go_sem] Old.refl Old.alloc Old.drew Old.setCell OldW.old
def isSp (s : ByteArray) (i : Nat) : Bool := s.data.toList.getD i 0 == 32
/-- a word more, if one stands there -/
def addW (s : ByteArray) (t : List CellR) (p i : Nat) : List CellR := if p < i then t ++ [⟨p, i, wideS (s.extract p i)⟩] else t
/-- the words, from a place on, behind those that are there, the last begun at p -/
def wordsGo (s : ByteArray) (i p : Nat) (t : List CellR) : List CellR :=
  if i ≤ s.size then (if i < s.size ∧ isSp s i = false then wordsGo s (i + 1) p t else wordsGo s (i + 1) (i + 1) (addW s t p i)) else t
termination_by s.size + 1 - i
def wordsS (s : ByteArray) : List CellR := wordsGo s 0 0 []
theorem wordsGo_in {s : ByteArray} {i : Nat} (h : i < s.size) (h' : isSp s i = false) (p : Nat) (t : List CellR) : wordsGo s i p t = wordsGo s (i + 1) p t := by rw [wordsGo, if_pos (by omega), if_pos ⟨h, h'⟩]
theorem wordsGo_cut {s : ByteArray} {i : Nat} (h : i ≤ s.size) (h' : i < s.size → isSp s i = true) (p : Nat) (t : List CellR) : wordsGo s i p t = wordsGo s (i + 1) (i + 1) (addW s t p i) := by
  rw [wordsGo, if_pos h, if_neg]
  rintro ⟨h1, h2⟩
  rw [h' h1] at h2; cases h2
theorem wordsGo_end {s : ByteArray} {i : Nat} (h : ¬ i ≤ s.size) (p : Nat) (t : List CellR) : wordsGo s i p t = t := by rw [wordsGo, if_neg h]
theorem byte_get (s : ByteArray) {i : Nat} (h : i < s.size) : s[i]'h = s.data.toList.getD i 0 := by
  have h' : i < s.data.toList.length := by rw [str_len]; exact h
  rw [List.getD_eq_getElem?_getD, List.getElem?_eq_getElem h']
  rfl
theorem byte_ne (s : ByteArray) {i : Nat} (h : i < s.size) : (((s[i]'h).toNat : Int) != 32) = !isSp s i := by
  rw [byte_get s h]
  unfold isSp
  generalize s.data.toList.getD i 0 = x
  rw [Bool.eq_iff_iff]
  simp only [bne_iff_ne, ne_eq, Bool.not_eq_true', beq_eq_false_iff_ne]
  refine not_congr ⟨fun e => ?_, fun e => by rw [e]; rfl⟩
  exact UInt8.toNat_inj.1 (by have h32 : (32 : UInt8).toNat = 32 := rfl; omega)
theorem extract_size {s : ByteArray} {p i : Nat} : (s.extract p i).size ≤ s.size := by rw [ByteArray.size_extract]; omega
end Go.Proofs.YtpifkinlaicliaaDoor
