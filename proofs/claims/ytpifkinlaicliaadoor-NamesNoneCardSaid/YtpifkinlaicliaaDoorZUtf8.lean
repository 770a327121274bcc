/-
  TEXT, PLAIN: the characters of a list of bytes, over no program.
-/
import Derived.Test.YtpifkinlaicliaaDoorZBase
import Derived.Lib.TrimUEq
import Derived.Lib.MapLaws
import Derived.Lib.OthersKept
import Derived.Lib.RuneCount
import Derived.Shelf.Unicode.DecodeSlow
import Derived.Shelf.Unicode.DecodeAny
import Derived.Test.YtpifkinlaicliaaDoorProg
namespace Go.Proofs.YtpifkinlaicliaaDoor
open Go.RowKit

/-- the character at a place: its number, its bytes -/
def chR (l : List UInt8) (p : Nat) : Nat := (Lib.decodeL (l.drop p)).1
def chN (l : List UInt8) (p : Nat) : Nat := (Lib.decodeL (l.drop p)).2
theorem chN_pos (l : List UInt8) (p : Nat) : 1 ≤ chN l p := Lib.decodeL_width _
theorem chN_le {l : List UInt8} {p : Nat} (h : p < l.length) : p + chN l p ≤ l.length := by
  have := Lib.decodeL_le (l.drop p) (by simp; omega)
  unfold chN
  rw [List.length_drop] at this
  omega
theorem chR_le (l : List UInt8) (p : Nat) : chR l p ≤ 1114111 := Lib.decodeL_rune _
/-- a byte that begins no character -/
def badC (l : List UInt8) (p : Nat) : Bool := chR l p == 65533 && chN l p == 1
/-- a control character -/
def ctlR (r : Int) : Bool := decide (r < 32) || (decide (127 ≤ r) && decide (r ≤ 159))
theorem str_len (s : ByteArray) : s.data.toList.length = s.size := (Lib.size_eq s).symm
theorem next_at {P : Program} (W : World) (k : Nat) (s : ByteArray) (pos : Nat) (ty : TypeId) (hk : W.heap[k]? = some (.stringIter s pos)) (h : pos < s.size) :
    (Instr.next (.pointer (some ⟨k, 0, none⟩)) true ty).run P W = .ok (.tuple #[.bool true, .int .i64 pos, .int .i32 (chR s.data.toList pos)]) (W.iterAt k s (pos + chN s.data.toList pos)) := by
  unfold chR chN
  rw [Lib.decodeL_drop]
  exact Lib.run_next_any_at W k s pos ty hk h
theorem Old.iterAt {w W : World} (h : Old w W) {k : Nat} (hk : w.heap.size ≤ k) (s : ByteArray) (pos : Nat) : Old w (W.iterAt k s pos) := Lib.below_iterAt h hk s pos
theorem Old.heap {w W : World} (h : Old w W) {k : Nat} {o : Obj} (hk : w.heap[k]? = some o) : W.heap[k]? = some o := by
  rw [h.block k (Array.getElem?_eq_some_iff.1 hk).1]; exact hk
/-- what is read of a text from a place on: where it is not plain, whether it is -/
def plainAt (l : List UInt8) (p : Nat) : Nat × Bool :=
  if p < l.length then (if ctlR (chR l p) || badC l p then (p, false) else plainAt l (p + chN l p)) else (0, true)
termination_by l.length - p
decreasing_by have := chN_pos l p; omega
theorem plainAt_end {l : List UInt8} {p : Nat} (h : ¬ p < l.length) : plainAt l p = (0, true) := by rw [plainAt, if_neg h]
theorem plainAt_no {l : List UInt8} {p : Nat} (h : p < l.length) (h' : (ctlR (chR l p) || badC l p) = true) : plainAt l p = (p, false) := by rw [plainAt, if_pos h, if_pos h']
theorem plainAt_on {l : List UInt8} {p : Nat} (h : p < l.length) (h' : (ctlR (chR l p) || badC l p) = false) : plainAt l p = plainAt l (p + chN l p) := by
  rw [plainAt, if_pos h, if_neg (by rw [h']; decide)]
theorem extract_list (s : ByteArray) (p q : Nat) : (s.extract p q).data.toList = (s.data.toList.take q).drop p := by
  rw [ByteArray.data_extract, Array.toList_extract, List.extract_eq_take_drop, List.drop_take]
theorem decodeGo_at (s : ByteArray) {p : Nat} (h : p < s.size) : Lib.decodeGo (s.extract p s.size) = (chR s.data.toList p, chN s.data.toList p) := by
  have hl : (s.extract p s.size).data.toList = s.data.toList.drop p := by rw [extract_list, ← str_len, List.take_length]
  have hne : ¬ (s.extract p s.size).size = 0 := by
    rw [← str_len, hl, List.length_drop, str_len]; omega
  unfold Lib.decodeGo chR chN
  rw [if_neg hne, ← hl]
  rfl
end Go.Proofs.YtpifkinlaicliaaDoor
/-
  unicode/utf8.DecodeRuneInString AND decodeRuneInStringSlow AT THIS DUMP: THE SHELF's CONTRACTS (proved once in the guide's library) LAID BY ITS OWN TOOL (lay-shelf.mjs, lay-plain.mjs), in plain words: no condition beside the two tables.
-/



namespace Go.Proofs
open Go.Shelf
def Tryd.lays260_ren : Go.Shelf.Ren := ⟨fun | 260 => 59 | n => n, fun | 9 => 9 | 21 => 21 | 3 => 3 | 4 => 4 | 5 => 5 | 119 => 133 | 0 => 0 | 46 => 100 | 139 => 136 | 138 => 135 | n => n, fun | 3 => 0 | 4 => 1 | n => n⟩
theorem Tryd.lays260 : Go.Proofs.Lays.n260 Tryd.prog Tryd.lays260_ren := {
  mixed := by kernel_rfl
  f260 := Tryd.func59.trans (congrArg some (by kernel_rfl))
  t0 := Tryd.underlying0
  a0 := Tryd.isAgg0
  z0 := Tryd.sizeOf0
  v0 := Tryd.zeroValue0
  t3 := Tryd.underlying3
  a3 := Tryd.isAgg3
  z3 := Tryd.sizeOf3
  v3 := Tryd.zeroValue3
  t4 := Tryd.underlying4
  a4 := Tryd.isAgg4
  z4 := Tryd.sizeOf4
  v4 := Tryd.zeroValue4
  t5 := Tryd.underlying5
  a5 := Tryd.isAgg5
  z5 := Tryd.sizeOf5
  v5 := Tryd.zeroValue5
  t9 := Tryd.underlying9
  a9 := Tryd.isAgg9
  z9 := Tryd.sizeOf9
  v9 := Tryd.zeroValue9
  t21 := Tryd.underlying21
  a21 := Tryd.isAgg21
  z21 := Tryd.sizeOf21
  v21 := Tryd.zeroValue21
  t46 := Tryd.underlying100
  a46 := Tryd.isAgg100
  z46 := Tryd.sizeOf100
  v46 := Tryd.zeroValue100
  t119 := Tryd.underlying133
  a119 := Tryd.isAgg133
  z119 := Tryd.sizeOf133
  t138 := Tryd.underlying135
  a138 := Tryd.isAgg135
  z138 := Tryd.sizeOf135
  v138 := Tryd.zeroValue135
  t139 := Tryd.underlying136
  a139 := Tryd.isAgg136
  z139 := Tryd.sizeOf136
  v139 := Tryd.zeroValue136
  g3 := by kernel_rfl
  g4 := by kernel_rfl }
open Go.RowKit Go.Lib in
theorem Tryd.utf8_decodeRuneInStringSlow (s : ByteArray) (w : World) (hT : Lib.Utf8Tabs 0 1 w) :
    Calls Tryd.prog 59 #[.string s] w fun e w' => e = .returned (.tuple #[.int .i32 (Lib.decodeGo s).1, .int .i64 (Lib.decodeGo s).2]) ∧ Below w.heap.size w w' := Any.utf8_decodeRuneInStringSlow Tryd.lays260 s w hT
def Tryd.lays197_ren : Go.Shelf.Ren := ⟨fun | 197 => 41 | 260 => 59 | n => n, fun | 9 => 9 | 21 => 21 | 3 => 3 | 4 => 4 | 5 => 5 | 105 => 91 | 119 => 133 | 0 => 0 | 46 => 100 | 139 => 136 | 138 => 135 | n => n, fun | 3 => 0 | 4 => 1 | n => n⟩
theorem Tryd.lays197 : Go.Proofs.Lays.n197 Tryd.prog Tryd.lays197_ren := {
  mixed := by kernel_rfl
  f197 := Tryd.func41.trans (congrArg some (by kernel_rfl))
  f260 := Tryd.func59.trans (congrArg some (by kernel_rfl))
  t0 := Tryd.underlying0
  a0 := Tryd.isAgg0
  z0 := Tryd.sizeOf0
  v0 := Tryd.zeroValue0
  t3 := Tryd.underlying3
  a3 := Tryd.isAgg3
  z3 := Tryd.sizeOf3
  v3 := Tryd.zeroValue3
  t4 := Tryd.underlying4
  a4 := Tryd.isAgg4
  z4 := Tryd.sizeOf4
  v4 := Tryd.zeroValue4
  t5 := Tryd.underlying5
  a5 := Tryd.isAgg5
  z5 := Tryd.sizeOf5
  v5 := Tryd.zeroValue5
  t9 := Tryd.underlying9
  a9 := Tryd.isAgg9
  z9 := Tryd.sizeOf9
  v9 := Tryd.zeroValue9
  t21 := Tryd.underlying21
  a21 := Tryd.isAgg21
  z21 := Tryd.sizeOf21
  v21 := Tryd.zeroValue21
  t46 := Tryd.underlying100
  a46 := Tryd.isAgg100
  z46 := Tryd.sizeOf100
  v46 := Tryd.zeroValue100
  t105 := Tryd.underlying91
  a105 := Tryd.isAgg91
  z105 := Tryd.sizeOf91
  v105 := Tryd.zeroValue91
  t119 := Tryd.underlying133
  a119 := Tryd.isAgg133
  z119 := Tryd.sizeOf133
  t138 := Tryd.underlying135
  a138 := Tryd.isAgg135
  z138 := Tryd.sizeOf135
  v138 := Tryd.zeroValue135
  t139 := Tryd.underlying136
  a139 := Tryd.isAgg136
  z139 := Tryd.sizeOf136
  v139 := Tryd.zeroValue136
  g3 := by kernel_rfl
  g4 := by kernel_rfl }
open Go.RowKit Go.Lib in
/-- **unicode/utf8.DecodeRuneInString AT EVERY STRING.** (LAID: no walk: one application.) -/
theorem Tryd.utf8_DecodeRuneInString (s : ByteArray) (w : World) (hT : Lib.Utf8Tabs 0 1 w) :
    Calls Tryd.prog 41 #[.string s] w fun e w' => e = .returned (.tuple #[.int .i32 (Lib.decodeGo s).1, .int .i64 (Lib.decodeGo s).2]) ∧ Below w.heap.size w w' := Any.utf8_DecodeRuneInString Tryd.lays197 s w hT
end Go.Proofs
