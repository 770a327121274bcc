/-
  TEXT, PLAIN: the characters of a list of bytes, over no program.
-/
import Derived.Test.YtpifkinlaicliaaGreatDoorZBase
import Derived.Lib.TrimUEq
import Derived.Lib.MapLaws
import Derived.Lib.OthersKept
import Derived.Lib.RuneCount
import Derived.Shelf.Unicode.DecodeSlow
import Derived.Shelf.Unicode.DecodeAny
import Derived.Test.YtpifkinlaicliaaGreatDoorProg
namespace Go.Proofs.YtpifkinlaicliaaGreatDoor
open Go.RowKit

/-- the character at a place: its number, its bytes -/
def chR (l : List UInt8) (p : Nat) : Nat := (Lib.decodeL (l.drop p)).1
def chN (l : List UInt8) (p : Nat) : Nat := (Lib.decodeL (l.drop p)).2
theorem chN_pos (l : List UInt8) (p : Nat) : 1 ≤ chN l p := Lib.decodeL_width _
theorem chN_le {l : List UInt8} {p : Nat} (h : p < l.length) : p + chN l p ≤ l.length := by
  have := Lib.decodeL_le (l.drop p) (by simp; omega)
  unfold chN
  rw [List.length_drop] at this
  omega
theorem chR_le (l : List UInt8) (p : Nat) : chR l p ≤ 1114111 := Lib.decodeL_rune _
/-- a byte that begins no character -/
def badC (l : List UInt8) (p : Nat) : Bool := chR l p == 65533 && chN l p == 1
/-- a control character -/
def ctlR (r : Int) : Bool := decide (r < 32) || (decide (127 ≤ r) && decide (r ≤ 159))
theorem str_len (s : ByteArray) : s.data.toList.length = s.size := (Lib.size_eq s).symm
theorem next_at {P : Program} (W : World) (k : Nat) (s : ByteArray) (pos : Nat) (ty : TypeId) (hk : W.heap[k]? = some (.stringIter s pos)) (h : pos < s.size) :
    (Instr.next (.pointer (some ⟨k, 0, none⟩)) true ty).run P W = .ok (.tuple #[.bool true, .int .i64 pos, .int .i32 (chR s.data.toList pos)]) (W.iterAt k s (pos + chN s.data.toList pos)) := by
  unfold chR chN
  rw [Lib.decodeL_drop]
  exact Lib.run_next_any_at W k s pos ty hk h
theorem Old.iterAt {w W : World} (h : Old w W) {k : Nat} (hk : w.heap.size ≤ k) (s : ByteArray) (pos : Nat) : Old w (W.iterAt k s pos) := Lib.below_iterAt h hk s pos
theorem Old.heap {w W : World} (h : Old w W) {k : Nat} {o : Obj} (hk : w.heap[k]? = some o) : W.heap[k]? = some o := by
  rw [h.block k (Array.getElem?_eq_some_iff.1 hk).1]; exact hk
/-- what is read of a text from a place on: where it is not plain, whether it is -/
def plainAt (l : List UInt8) (p : Nat) : Nat × Bool :=
  if p < l.length then (if ctlR (chR l p) || badC l p then (p, false) else plainAt l (p + chN l p)) else (0, true)
termination_by l.length - p
decreasing_by have := chN_pos l p; omega
theorem plainAt_end {l : List UInt8} {p : Nat} (h : ¬ p < l.length) : plainAt l p = (0, true) := by rw [plainAt, if_neg h]
theorem plainAt_no {l : List UInt8} {p : Nat} (h : p < l.length) (h' : (ctlR (chR l p) || badC l p) = true) : plainAt l p = (p, false) := by rw [plainAt, if_pos h, if_pos h']
theorem plainAt_on {l : List UInt8} {p : Nat} (h : p < l.length) (h' : (ctlR (chR l p) || badC l p) = false) : plainAt l p = plainAt l (p + chN l p) := by
  rw [plainAt, if_pos h, if_neg (by rw [h']; decide)]
theorem extract_list (s : ByteArray) (p q : Nat) : (s.extract p q).data.toList = (s.data.toList.take q).drop p := by
  rw [ByteArray.data_extract, Array.toList_extract, List.extract_eq_take_drop, List.drop_take]
theorem decodeGo_at (s : ByteArray) {p : Nat} (h : p < s.size) : Lib.decodeGo (s.extract p s.size) = (chR s.data.toList p, chN s.data.toList p) := by
  have hl : (s.extract p s.size).data.toList = s.data.toList.drop p := by rw [extract_list, ← str_len, List.take_length]
  have hne : ¬ (s.extract p s.size).size = 0 := by
    rw [← str_len, hl, List.length_drop, str_len]; omega
  unfold Lib.decodeGo chR chN
  rw [if_neg hne, ← hl]
  rfl
end Go.Proofs.YtpifkinlaicliaaGreatDoor
/-
  unicode/utf8.DecodeRuneInString AND decodeRuneInStringSlow AT THIS DUMP: THE SHELF's CONTRACTS (proved once in the guide's library) LAID BY ITS OWN TOOL (lay-shelf.mjs, lay-plain.mjs), in plain words: no condition beside the two tables.
-/



namespace Go.Proofs
open Go.Shelf
def Tryz.lays260_ren : Go.Shelf.Ren := ⟨fun | 260 => 90 | n => n, fun | 9 => 9 | 21 => 21 | 3 => 3 | 4 => 4 | 5 => 5 | 119 => 173 | 0 => 0 | 46 => 95 | 139 => 176 | 138 => 175 | n => n, fun | 3 => 1 | 4 => 2 | n => n⟩
theorem Tryz.lays260 : Go.Proofs.Lays.n260 Tryz.prog Tryz.lays260_ren := {
  mixed := by kernel_rfl
  f260 := Tryz.func90.trans (congrArg some (by kernel_rfl))
  t0 := Tryz.underlying0
  a0 := Tryz.isAgg0
  z0 := Tryz.sizeOf0
  v0 := Tryz.zeroValue0
  t3 := Tryz.underlying3
  a3 := Tryz.isAgg3
  z3 := Tryz.sizeOf3
  v3 := Tryz.zeroValue3
  t4 := Tryz.underlying4
  a4 := Tryz.isAgg4
  z4 := Tryz.sizeOf4
  v4 := Tryz.zeroValue4
  t5 := Tryz.underlying5
  a5 := Tryz.isAgg5
  z5 := Tryz.sizeOf5
  v5 := Tryz.zeroValue5
  t9 := Tryz.underlying9
  a9 := Tryz.isAgg9
  z9 := Tryz.sizeOf9
  v9 := Tryz.zeroValue9
  t21 := Tryz.underlying21
  a21 := Tryz.isAgg21
  z21 := Tryz.sizeOf21
  v21 := Tryz.zeroValue21
  t46 := Tryz.underlying95
  a46 := Tryz.isAgg95
  z46 := Tryz.sizeOf95
  v46 := Tryz.zeroValue95
  t119 := Tryz.underlying173
  a119 := Tryz.isAgg173
  z119 := Tryz.sizeOf173
  t138 := Tryz.underlying175
  a138 := Tryz.isAgg175
  z138 := Tryz.sizeOf175
  v138 := Tryz.zeroValue175
  t139 := Tryz.underlying176
  a139 := Tryz.isAgg176
  z139 := Tryz.sizeOf176
  v139 := Tryz.zeroValue176
  g3 := by kernel_rfl
  g4 := by kernel_rfl }
open Go.RowKit Go.Lib in
theorem Tryz.utf8_decodeRuneInStringSlow (s : ByteArray) (w : World) (hT : Lib.Utf8Tabs 1 2 w) :
    Calls Tryz.prog 90 #[.string s] w fun e w' => e = .returned (.tuple #[.int .i32 (Lib.decodeGo s).1, .int .i64 (Lib.decodeGo s).2]) ∧ Below w.heap.size w w' := Any.utf8_decodeRuneInStringSlow Tryz.lays260 s w hT
def Tryz.lays197_ren : Go.Shelf.Ren := ⟨fun | 197 => 61 | 260 => 90 | n => n, fun | 9 => 9 | 21 => 21 | 3 => 3 | 4 => 4 | 5 => 5 | 105 => 113 | 119 => 173 | 0 => 0 | 46 => 95 | 139 => 176 | 138 => 175 | n => n, fun | 3 => 1 | 4 => 2 | n => n⟩
theorem Tryz.lays197 : Go.Proofs.Lays.n197 Tryz.prog Tryz.lays197_ren := {
  mixed := by kernel_rfl
  f197 := Tryz.func61.trans (congrArg some (by kernel_rfl))
  f260 := Tryz.func90.trans (congrArg some (by kernel_rfl))
  t0 := Tryz.underlying0
  a0 := Tryz.isAgg0
  z0 := Tryz.sizeOf0
  v0 := Tryz.zeroValue0
  t3 := Tryz.underlying3
  a3 := Tryz.isAgg3
  z3 := Tryz.sizeOf3
  v3 := Tryz.zeroValue3
  t4 := Tryz.underlying4
  a4 := Tryz.isAgg4
  z4 := Tryz.sizeOf4
  v4 := Tryz.zeroValue4
  t5 := Tryz.underlying5
  a5 := Tryz.isAgg5
  z5 := Tryz.sizeOf5
  v5 := Tryz.zeroValue5
  t9 := Tryz.underlying9
  a9 := Tryz.isAgg9
  z9 := Tryz.sizeOf9
  v9 := Tryz.zeroValue9
  t21 := Tryz.underlying21
  a21 := Tryz.isAgg21
  z21 := Tryz.sizeOf21
  v21 := Tryz.zeroValue21
  t46 := Tryz.underlying95
  a46 := Tryz.isAgg95
  z46 := Tryz.sizeOf95
  v46 := Tryz.zeroValue95
  t105 := Tryz.underlying113
  a105 := Tryz.isAgg113
  z105 := Tryz.sizeOf113
  v105 := Tryz.zeroValue113
  t119 := Tryz.underlying173
  a119 := Tryz.isAgg173
  z119 := Tryz.sizeOf173
  t138 := Tryz.underlying175
  a138 := Tryz.isAgg175
  z138 := Tryz.sizeOf175
  v138 := Tryz.zeroValue175
  t139 := Tryz.underlying176
  a139 := Tryz.isAgg176
  z139 := Tryz.sizeOf176
  v139 := Tryz.zeroValue176
  g3 := by kernel_rfl
  g4 := by kernel_rfl }
open Go.RowKit Go.Lib in
/-- **unicode/utf8.DecodeRuneInString AT EVERY STRING.** (LAID: no walk: one application.) -/
theorem Tryz.utf8_DecodeRuneInString (s : ByteArray) (w : World) (hT : Lib.Utf8Tabs 1 2 w) :
    Calls Tryz.prog 61 #[.string s] w fun e w' => e = .returned (.tuple #[.int .i32 (Lib.decodeGo s).1, .int .i64 (Lib.decodeGo s).2]) ∧ Below w.heap.size w w' := Any.utf8_DecodeRuneInString Tryz.lays197 s w hT
end Go.Proofs
