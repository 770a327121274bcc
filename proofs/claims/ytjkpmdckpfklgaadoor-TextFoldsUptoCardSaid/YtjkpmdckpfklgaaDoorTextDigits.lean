/-
  TEXT, DIGITS: digits among bytes and among characters, over no program.
-/
import Derived.Test.YtjkpmdckpfklgaaDoorTextRefF
import Derived.Test.YtjkpmdckpfklgaaDoorTextElems2
import Derived.Lib.TrimAscii
namespace Go.Proofs.YtjkpmdckpfklgaaDoor
open Go.RowKit

theorem drop_cons {l : List UInt8} {p : Nat} (hp : p < l.length) : l.drop p = l.getD p 0 :: l.drop (p + 1) := by
  rw [List.drop_eq_getElem_cons hp, List.getD_eq_getElem?_getD, List.getElem?_eq_getElem hp]; rfl
/-- a byte below 128 is a character -/
theorem chR_byte {l : List UInt8} {p : Nat} (hp : p < l.length) (h : (l.getD p 0).toNat < 128) : chR l p = (l.getD p 0).toNat ∧ chN l p = 1 := by
  unfold chR chN
  rw [drop_cons hp, Lib.decodeL_ascii _ _ h]
  exact ⟨rfl, rfl⟩
/-- a character below 128 is a byte -/
theorem chR_small {l : List UInt8} {p : Nat} (hp : p < l.length) (h : chR l p < 128) : (l.getD p 0).toNat = chR l p := by
  have hne : l.drop p ≠ [] := by
    intro e
    have := congrArg List.length e
    simp at this; omega
  have he : Lib.encodeRune (chR l p : Int) = (l.drop p).take (chN l p) := Lib.encode_decode (l.drop p) hne (fun k => by unfold chR at h; omega)
  rw [chN_ascii hp h] at he
  generalize chR l p = r at *
  unfold Lib.encodeRune at he
  rw [Lib.encodeRuneZ_one (by omega) (by omega), drop_cons hp] at he
  simp at he
  rw [List.getD_eq_getElem?_getD, ← he]
  simp
  omega
theorem digit_iff {l : List UInt8} {p : Nat} (hp : p < l.length) : inR (chR l p) 48 57 = isDg (l.getD p 0) := by
  rw [Bool.eq_iff_iff, inR_iff]
  unfold isDg
  simp only [Bool.and_eq_true, decide_eq_true_eq]
  constructor
  · rintro ⟨h1, h2⟩
    have := chR_small hp (by omega)
    omega
  · rintro ⟨h1, h2⟩
    have := (chR_byte hp (by omega)).1
    omega
theorem dgN_cons (b : UInt8) (l : List UInt8) : dgN (b :: l) = if isDg b then dgN l + 1 else 0 := by
  unfold dgN
  rw [List.takeWhile_cons]
  split <;> simp
theorem dgAt_on {s : ByteArray} {p : Nat} (hp : p < s.size) (h : isDg (s.data.toList.getD p 0) = true) : dgAt s p = dgAt s (p + 1) + 1 := by
  unfold dgAt
  rw [drop_cons (by rw [str_len]; exact hp), dgN_cons, if_pos h]
theorem dgAt_off {s : ByteArray} {p : Nat} (hp : p < s.size) (h : isDg (s.data.toList.getD p 0) = false) : dgAt s p = 0 := by
  unfold dgAt
  rw [drop_cons (by rw [str_len]; exact hp), dgN_cons, if_neg (by rw [h]; decide)]
theorem dgAt_end {s : ByteArray} {p : Nat} (hp : ¬ p < s.size) : dgAt s p = 0 := by
  unfold dgAt
  rw [List.drop_eq_nil_of_le (by rw [str_len]; omega)]; rfl
/-- the digits from p to q without noughts ahead, as bytes -/
def trimL (s : ByteArray) (p q : Nat) : List UInt8 := Lib.trimLeftB (s.extract p q).data.toList 48
theorem trimL_zero (s : ByteArray) (p : Nat) : trimL s p p = [] := by
  unfold trimL
  rw [extract_list, List.drop_eq_nil_of_le (by rw [List.length_take]; omega)]; rfl
theorem trimL_succ {s : ByteArray} {p q : Nat} (hpq : p ≤ q) (hq : q < s.size) :
    trimL s p (q + 1) = if trimL s p q = [] ∧ s.data.toList.getD q 0 = 48 then [] else trimL s p q ++ [s.data.toList.getD q 0] := by
  have h' : q < s.data.toList.length := by rw [str_len]; exact hq
  have he : (s.extract p (q + 1)).data.toList = (s.extract p q).data.toList ++ [s.data.toList.getD q 0] := by
    rw [extract_list, extract_list, List.take_succ_eq_append_getElem h', List.drop_append_of_le_length (by rw [List.length_take]; omega), List.getD_eq_getElem?_getD, List.getElem?_eq_getElem h']
    rfl
  unfold trimL Lib.trimLeftB
  rw [he, List.dropWhile_append]
  by_cases h : ((s.extract p q).data.toList.dropWhile (· == 48)).isEmpty = true
  · rw [if_pos h]
    have h0 : (s.extract p q).data.toList.dropWhile (· == 48) = [] := List.isEmpty_iff.1 h
    rw [h0]
    by_cases k : s.data.toList.getD q 0 = 48
    · rw [if_pos ⟨rfl, k⟩, k]; rfl
    · rw [if_neg (fun x => k x.2)]
      rw [List.dropWhile_cons, if_neg (by simpa using k)]; rfl
  · rw [if_neg h, if_neg (fun x => h (by rw [x.1]; rfl))]
theorem trimN_eq (s : ByteArray) (p q : Nat) : trimN s p q = strB (trimL s p q) := rfl
end Go.Proofs.YtjkpmdckpfklgaaDoor
