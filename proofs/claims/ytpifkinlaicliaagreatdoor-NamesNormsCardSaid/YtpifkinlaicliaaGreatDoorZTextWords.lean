/-
  TEXT, THE DOCUMENT's, B: cells, how wide.
-/
import Derived.Test.YtpifkinlaicliaaGreatDoorZTextWide
import Derived.Test.YtpifkinlaicliaaGreatDoorZTextRefA
import Derived.BigQuiet
import Derived.Deep.DeepCutAuto
import Derived.Deep.RegionHeld3
import Derived.Deep.AppendLies
import Derived.Deep.RegionLaw
namespace Go.Proofs.YtpifkinlaicliaaGreatDoor
open Go.RowKit
attribute [local go_sem] Old.refl Old.alloc Old.drew Old.setCell OldW.old
/-- what a character's cells say in every later world -/
theorem Recs.chr {w : World} {b off i : Nat} {t : List Chr} (ht : ∀ j u, (chE.all t)[j]? = some u → ∀ W, Old w W → W.cell? ⟨b, off + j, none⟩ = some u) {x : Chr} (hx : t[i]? = some x) :
    ∀ V, Old w V → V.cell? ⟨b, off + i * 4, none⟩ = some (.int .i32 x.r) ∧ V.cell? ⟨b, off + i * 4 + 1, none⟩ = some (.int .i64 x.at') ∧ V.cell? ⟨b, off + i * 4 + 2, none⟩ = some (.int .i64 x.n) ∧ V.cell? ⟨b, off + i * 4 + 3, none⟩ = some (.bool x.bad) := fun V o => by
  have h0 := ht (i * 4 + 0) _ (Enc.all_at (c := chE) (j := 0) hx rfl) V o
  have h1 := ht (i * 4 + 1) _ (Enc.all_at (c := chE) (j := 1) hx rfl) V o
  have h2 := ht (i * 4 + 2) _ (Enc.all_at (c := chE) (j := 2) hx rfl) V o
  have h3 := ht (i * 4 + 3) _ (Enc.all_at (c := chE) (j := 3) hx rfl) V o
  rw [← Nat.add_assoc] at h1 h2 h3
  exact ⟨h0, h1, h2, h3⟩
/-- the characters that are left begin at p -/
theorem chars_step {l : List UInt8} {i p : Nat} (h : (charsAt l 0).drop i = charsAt l p) (hi : i < (charsAt l 0).length) :
    p < l.length ∧ (charsAt l 0)[i]? = some ⟨chR l p, p, chN l p, badC l p⟩ ∧ (charsAt l 0).drop (i + 1) = charsAt l (p + chN l p) := by
  have hp : p < l.length := by
    by_cases k : p < l.length
    · exact k
    · rw [charsAt_end k] at h
      have := congrArg List.length h
      simp at this; omega
  rw [charsAt_on hp, List.drop_eq_getElem_cons hi] at h
  have h1 := (List.cons.inj h).1
  exact ⟨hp, by rw [List.getElem?_eq_getElem hi, h1], (List.cons.inj h).2⟩
theorem chars_done {l : List UInt8} {i p : Nat} (h : (charsAt l 0).drop i = charsAt l p) (hi : ¬ i < (charsAt l 0).length) : ¬ p < l.length := fun k => by
  rw [charsAt_on k, List.drop_eq_nil_of_le (by omega)] at h
  cases h
end Go.Proofs.YtpifkinlaicliaaGreatDoor
/-
  TEXT, WORDS.
-/




namespace Go.Proofs.YtpifkinlaicliaaGreatDoor
open Go.RowKit
attribute [local go_sem] Old.refl Old.alloc Old.drew Old.setCell OldW.old
def isSp (s : ByteArray) (i : Nat) : Bool := s.data.toList.getD i 0 == 32
/-- a word more, if one stands there -/
def addW (s : ByteArray) (t : List CellR) (p i : Nat) : List CellR := if p < i then t ++ [⟨p, i, wideS (s.extract p i)⟩] else t
/-- the words, from a place on, behind those that are there, the last begun at p -/
def wordsGo (s : ByteArray) (i p : Nat) (t : List CellR) : List CellR :=
  if i ≤ s.size then (if i < s.size ∧ isSp s i = false then wordsGo s (i + 1) p t else wordsGo s (i + 1) (i + 1) (addW s t p i)) else t
termination_by s.size + 1 - i
def wordsS (s : ByteArray) : List CellR := wordsGo s 0 0 []
theorem wordsGo_in {s : ByteArray} {i : Nat} (h : i < s.size) (h' : isSp s i = false) (p : Nat) (t : List CellR) : wordsGo s i p t = wordsGo s (i + 1) p t := by rw [wordsGo, if_pos (by omega), if_pos ⟨h, h'⟩]
theorem wordsGo_cut {s : ByteArray} {i : Nat} (h : i ≤ s.size) (h' : i < s.size → isSp s i = true) (p : Nat) (t : List CellR) : wordsGo s i p t = wordsGo s (i + 1) (i + 1) (addW s t p i) := by
  rw [wordsGo, if_pos h, if_neg]
  rintro ⟨h1, h2⟩
  rw [h' h1] at h2; cases h2
theorem wordsGo_end {s : ByteArray} {i : Nat} (h : ¬ i ≤ s.size) (p : Nat) (t : List CellR) : wordsGo s i p t = t := by rw [wordsGo, if_neg h]
theorem byte_get (s : ByteArray) {i : Nat} (h : i < s.size) : s[i]'h = s.data.toList.getD i 0 := by
  have h' : i < s.data.toList.length := by rw [str_len]; exact h
  rw [List.getD_eq_getElem?_getD, List.getElem?_eq_getElem h']
  rfl
theorem byte_ne (s : ByteArray) {i : Nat} (h : i < s.size) : (((s[i]'h).toNat : Int) != 32) = !isSp s i := by
  rw [byte_get s h]
  unfold isSp
  generalize s.data.toList.getD i 0 = x
  rw [Bool.eq_iff_iff]
  simp only [bne_iff_ne, ne_eq, Bool.not_eq_true', beq_eq_false_iff_ne]
  refine not_congr ⟨fun e => ?_, fun e => by rw [e]; rfl⟩
  exact UInt8.toNat_inj.1 (by have h32 : (32 : UInt8).toNat = 32 := rfl; omega)
theorem extract_size {s : ByteArray} {p i : Nat} : (s.extract p i).size ≤ s.size := by rw [ByteArray.size_extract]; omega
end Go.Proofs.YtpifkinlaicliaaGreatDoor
