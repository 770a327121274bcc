/-
  TEXT, PLAIN: the characters of a list of bytes, over no program.
-/
import Derived.Test.YtjkpmdckpfklgaaDoorBase
import Derived.Lib.TrimUEq
import Derived.Lib.MapLaws
import Derived.Lib.OthersKept
import Derived.Lib.RuneCount
import Derived.Shelf.Unicode.DecodeSlow
namespace Go.Proofs.YtjkpmdckpfklgaaDoor
open Go.RowKit

/-- the character at a place: its number, its bytes -/
def chR (l : List UInt8) (p : Nat) : Nat := (Lib.decodeL (l.drop p)).1
def chN (l : List UInt8) (p : Nat) : Nat := (Lib.decodeL (l.drop p)).2
theorem chN_pos (l : List UInt8) (p : Nat) : 1 ≤ chN l p := Lib.decodeL_width _
theorem chN_le {l : List UInt8} {p : Nat} (h : p < l.length) : p + chN l p ≤ l.length := by
  have := Lib.decodeL_le (l.drop p) (by simp; omega)
  unfold chN
  rw [List.length_drop] at this
  omega
theorem chR_le (l : List UInt8) (p : Nat) : chR l p ≤ 1114111 := Lib.decodeL_rune _
/-- a byte that begins no character -/
def badC (l : List UInt8) (p : Nat) : Bool := chR l p == 65533 && chN l p == 1
/-- a control character -/
def ctlR (r : Int) : Bool := decide (r < 32) || (decide (127 ≤ r) && decide (r ≤ 159))
theorem str_len (s : ByteArray) : s.data.toList.length = s.size := (Lib.size_eq s).symm
theorem next_at {P : Program} (W : World) (k : Nat) (s : ByteArray) (pos : Nat) (ty : TypeId) (hk : W.heap[k]? = some (.stringIter s pos)) (h : pos < s.size) :
    (Instr.next (.pointer (some ⟨k, 0, none⟩)) true ty).run P W = .ok (.tuple #[.bool true, .int .i64 pos, .int .i32 (chR s.data.toList pos)]) (W.iterAt k s (pos + chN s.data.toList pos)) := by
  unfold chR chN
  rw [Lib.decodeL_drop]
  exact Lib.run_next_any_at W k s pos ty hk h
theorem Old.iterAt {w W : World} (h : Old w W) {k : Nat} (hk : w.heap.size ≤ k) (s : ByteArray) (pos : Nat) : Old w (W.iterAt k s pos) := Lib.below_iterAt h hk s pos
theorem Old.heap {w W : World} (h : Old w W) {k : Nat} {o : Obj} (hk : w.heap[k]? = some o) : W.heap[k]? = some o := by
  rw [h.block k (Array.getElem?_eq_some_iff.1 hk).1]; exact hk
/-- what is read of a text from a place on: where it is not plain, whether it is -/
def plainAt (l : List UInt8) (p : Nat) : Nat × Bool :=
  if p < l.length then (if ctlR (chR l p) || badC l p then (p, false) else plainAt l (p + chN l p)) else (0, true)
termination_by l.length - p
decreasing_by have := chN_pos l p; omega
theorem plainAt_end {l : List UInt8} {p : Nat} (h : ¬ p < l.length) : plainAt l p = (0, true) := by rw [plainAt, if_neg h]
theorem plainAt_no {l : List UInt8} {p : Nat} (h : p < l.length) (h' : (ctlR (chR l p) || badC l p) = true) : plainAt l p = (p, false) := by rw [plainAt, if_pos h, if_pos h']
theorem plainAt_on {l : List UInt8} {p : Nat} (h : p < l.length) (h' : (ctlR (chR l p) || badC l p) = false) : plainAt l p = plainAt l (p + chN l p) := by
  rw [plainAt, if_pos h, if_neg (by rw [h']; decide)]
theorem extract_list (s : ByteArray) (p q : Nat) : (s.extract p q).data.toList = (s.data.toList.take q).drop p := by
  rw [ByteArray.data_extract, Array.toList_extract, List.extract_eq_take_drop, List.drop_take]
theorem decodeGo_at (s : ByteArray) {p : Nat} (h : p < s.size) : Lib.decodeGo (s.extract p s.size) = (chR s.data.toList p, chN s.data.toList p) := by
  have hl : (s.extract p s.size).data.toList = s.data.toList.drop p := by rw [extract_list, ← str_len, List.take_length]
  have hne : ¬ (s.extract p s.size).size = 0 := by
    rw [← str_len, hl, List.length_drop, str_len]; omega
  unfold Lib.decodeGo chR chN
  rw [if_neg hne, ← hl]
  rfl
end Go.Proofs.YtjkpmdckpfklgaaDoor
