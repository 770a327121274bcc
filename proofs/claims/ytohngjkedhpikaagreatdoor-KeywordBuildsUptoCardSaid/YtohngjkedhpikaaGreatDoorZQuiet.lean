/-
  TEXT, PLAIN: the characters of a list of bytes, over no program.
-/
import Derived.Test.YtohngjkedhpikaaGreatDoorZBase
import Derived.Lib.TrimUEq
import Derived.Lib.MapLaws
import Derived.Lib.OthersKept
import Derived.Lib.RuneCount
import Derived.Shelf.Unicode.DecodeSlow
import Derived.Shelf.Unicode.DecodeAny
import Derived.Test.YtohngjkedhpikaaGreatDoorProg
namespace Go.Proofs.YtohngjkedhpikaaGreatDoor
open Go.RowKit

/-- the character at a place: its number, its bytes -/
def chR (l : List UInt8) (p : Nat) : Nat := (Lib.decodeL (l.drop p)).1
def chN (l : List UInt8) (p : Nat) : Nat := (Lib.decodeL (l.drop p)).2
theorem chN_pos (l : List UInt8) (p : Nat) : 1 ≤ chN l p := Lib.decodeL_width _
theorem chN_le {l : List UInt8} {p : Nat} (h : p < l.length) : p + chN l p ≤ l.length := by
  have := Lib.decodeL_le (l.drop p) (by simp; omega)
  unfold chN
  rw [List.length_drop] at this
  omega
theorem chR_le (l : List UInt8) (p : Nat) : chR l p ≤ 1114111 := Lib.decodeL_rune _
/-- a byte that begins no character -/
def badC (l : List UInt8) (p : Nat) : Bool := chR l p == 65533 && chN l p == 1
/-- a control character -/
def ctlR (r : Int) : Bool := decide (r < 32) || (decide (127 ≤ r) && decide (r ≤ 159))
theorem str_len (s : ByteArray) : s.data.toList.length = s.size := (Lib.size_eq s).symm
theorem next_at {P : Program} (W : World) (k : Nat) (s : ByteArray) (pos : Nat) (ty : TypeId) (hk : W.heap[k]? = some (.stringIter s pos)) (h : pos < s.size) :
    (Instr.next (.pointer (some ⟨k, 0, none⟩)) true ty).run P W = .ok (.tuple #[.bool true, .int .i64 pos, .int .i32 (chR s.data.toList pos)]) (W.iterAt k s (pos + chN s.data.toList pos)) := by
  unfold chR chN
  rw [Lib.decodeL_drop]
  exact Lib.run_next_any_at W k s pos ty hk h
theorem Old.iterAt {w W : World} (h : Old w W) {k : Nat} (hk : w.heap.size ≤ k) (s : ByteArray) (pos : Nat) : Old w (W.iterAt k s pos) := Lib.below_iterAt h hk s pos
theorem Old.heap {w W : World} (h : Old w W) {k : Nat} {o : Obj} (hk : w.heap[k]? = some o) : W.heap[k]? = some o := by
  rw [h.block k (Array.getElem?_eq_some_iff.1 hk).1]; exact hk
/-- what is read of a text from a place on: where it is not plain, whether it is -/
def plainAt (l : List UInt8) (p : Nat) : Nat × Bool :=
  if p < l.length then (if ctlR (chR l p) || badC l p then (p, false) else plainAt l (p + chN l p)) else (0, true)
termination_by l.length - p
decreasing_by have := chN_pos l p; omega
theorem plainAt_end {l : List UInt8} {p : Nat} (h : ¬ p < l.length) : plainAt l p = (0, true) := by rw [plainAt, if_neg h]
theorem plainAt_no {l : List UInt8} {p : Nat} (h : p < l.length) (h' : (ctlR (chR l p) || badC l p) = true) : plainAt l p = (p, false) := by rw [plainAt, if_pos h, if_pos h']
theorem plainAt_on {l : List UInt8} {p : Nat} (h : p < l.length) (h' : (ctlR (chR l p) || badC l p) = false) : plainAt l p = plainAt l (p + chN l p) := by
  rw [plainAt, if_pos h, if_neg (by rw [h']; decide)]
theorem extract_list (s : ByteArray) (p q : Nat) : (s.extract p q).data.toList = (s.data.toList.take q).drop p := by
  rw [ByteArray.data_extract, Array.toList_extract, List.extract_eq_take_drop, List.drop_take]
theorem decodeGo_at (s : ByteArray) {p : Nat} (h : p < s.size) : Lib.decodeGo (s.extract p s.size) = (chR s.data.toList p, chN s.data.toList p) := by
  have hl : (s.extract p s.size).data.toList = s.data.toList.drop p := by rw [extract_list, ← str_len, List.take_length]
  have hne : ¬ (s.extract p s.size).size = 0 := by
    rw [← str_len, hl, List.length_drop, str_len]; omega
  unfold Lib.decodeGo chR chN
  rw [if_neg hne, ← hl]
  rfl
end Go.Proofs.YtohngjkedhpikaaGreatDoor
/-
  unicode/utf8.DecodeRuneInString AND decodeRuneInStringSlow AT THIS DUMP: THE SHELF's CONTRACTS (proved once in the guide's library) LAID BY ITS OWN TOOL (lay-shelf.mjs, lay-plain.mjs), in plain words: no condition beside the two tables.
-/



namespace Go.Proofs
open Go.Shelf
def Tryz.lays260_ren : Go.Shelf.Ren := ⟨fun | 260 => 140 | n => n, fun | 9 => 9 | 21 => 21 | 3 => 3 | 4 => 4 | 5 => 5 | 119 => 228 | 0 => 0 | 46 => 135 | 139 => 231 | 138 => 230 | n => n, fun | 3 => 1 | 4 => 2 | n => n⟩
theorem Tryz.lays260 : Go.Proofs.Lays.n260 Tryz.prog Tryz.lays260_ren := {
  mixed := by kernel_rfl
  f260 := Tryz.func140.trans (congrArg some (by kernel_rfl))
  t0 := Tryz.underlying0
  a0 := Tryz.isAgg0
  z0 := Tryz.sizeOf0
  v0 := Tryz.zeroValue0
  t3 := Tryz.underlying3
  a3 := Tryz.isAgg3
  z3 := Tryz.sizeOf3
  v3 := Tryz.zeroValue3
  t4 := Tryz.underlying4
  a4 := Tryz.isAgg4
  z4 := Tryz.sizeOf4
  v4 := Tryz.zeroValue4
  t5 := Tryz.underlying5
  a5 := Tryz.isAgg5
  z5 := Tryz.sizeOf5
  v5 := Tryz.zeroValue5
  t9 := Tryz.underlying9
  a9 := Tryz.isAgg9
  z9 := Tryz.sizeOf9
  v9 := Tryz.zeroValue9
  t21 := Tryz.underlying21
  a21 := Tryz.isAgg21
  z21 := Tryz.sizeOf21
  v21 := Tryz.zeroValue21
  t46 := Tryz.underlying135
  a46 := Tryz.isAgg135
  z46 := Tryz.sizeOf135
  v46 := Tryz.zeroValue135
  t119 := Tryz.underlying228
  a119 := Tryz.isAgg228
  z119 := Tryz.sizeOf228
  t138 := Tryz.underlying230
  a138 := Tryz.isAgg230
  z138 := Tryz.sizeOf230
  v138 := Tryz.zeroValue230
  t139 := Tryz.underlying231
  a139 := Tryz.isAgg231
  z139 := Tryz.sizeOf231
  v139 := Tryz.zeroValue231
  g3 := by kernel_rfl
  g4 := by kernel_rfl }
open Go.RowKit Go.Lib in
theorem Tryz.utf8_decodeRuneInStringSlow (s : ByteArray) (w : World) (hT : Lib.Utf8Tabs 1 2 w) :
    Calls Tryz.prog 140 #[.string s] w fun e w' => e = .returned (.tuple #[.int .i32 (Lib.decodeGo s).1, .int .i64 (Lib.decodeGo s).2]) ∧ Below w.heap.size w w' := Any.utf8_decodeRuneInStringSlow Tryz.lays260 s w hT
def Tryz.lays197_ren : Go.Shelf.Ren := ⟨fun | 197 => 97 | 260 => 140 | n => n, fun | 9 => 9 | 21 => 21 | 3 => 3 | 4 => 4 | 5 => 5 | 105 => 144 | 119 => 228 | 0 => 0 | 46 => 135 | 139 => 231 | 138 => 230 | n => n, fun | 3 => 1 | 4 => 2 | n => n⟩
theorem Tryz.lays197 : Go.Proofs.Lays.n197 Tryz.prog Tryz.lays197_ren := {
  mixed := by kernel_rfl
  f197 := Tryz.func97.trans (congrArg some (by kernel_rfl))
  f260 := Tryz.func140.trans (congrArg some (by kernel_rfl))
  t0 := Tryz.underlying0
  a0 := Tryz.isAgg0
  z0 := Tryz.sizeOf0
  v0 := Tryz.zeroValue0
  t3 := Tryz.underlying3
  a3 := Tryz.isAgg3
  z3 := Tryz.sizeOf3
  v3 := Tryz.zeroValue3
  t4 := Tryz.underlying4
  a4 := Tryz.isAgg4
  z4 := Tryz.sizeOf4
  v4 := Tryz.zeroValue4
  t5 := Tryz.underlying5
  a5 := Tryz.isAgg5
  z5 := Tryz.sizeOf5
  v5 := Tryz.zeroValue5
  t9 := Tryz.underlying9
  a9 := Tryz.isAgg9
  z9 := Tryz.sizeOf9
  v9 := Tryz.zeroValue9
  t21 := Tryz.underlying21
  a21 := Tryz.isAgg21
  z21 := Tryz.sizeOf21
  v21 := Tryz.zeroValue21
  t46 := Tryz.underlying135
  a46 := Tryz.isAgg135
  z46 := Tryz.sizeOf135
  v46 := Tryz.zeroValue135
  t105 := Tryz.underlying144
  a105 := Tryz.isAgg144
  z105 := Tryz.sizeOf144
  v105 := Tryz.zeroValue144
  t119 := Tryz.underlying228
  a119 := Tryz.isAgg228
  z119 := Tryz.sizeOf228
  t138 := Tryz.underlying230
  a138 := Tryz.isAgg230
  z138 := Tryz.sizeOf230
  v138 := Tryz.zeroValue230
  t139 := Tryz.underlying231
  a139 := Tryz.isAgg231
  z139 := Tryz.sizeOf231
  v139 := Tryz.zeroValue231
  g3 := by kernel_rfl
  g4 := by kernel_rfl }
open Go.RowKit Go.Lib in
/-- **unicode/utf8.DecodeRuneInString AT EVERY STRING.** (LAID: no walk: one application.) -/
theorem Tryz.utf8_DecodeRuneInString (s : ByteArray) (w : World) (hT : Lib.Utf8Tabs 1 2 w) :
    Calls Tryz.prog 97 #[.string s] w fun e w' => e = .returned (.tuple #[.int .i32 (Lib.decodeGo s).1, .int .i64 (Lib.decodeGo s).2]) ∧ Below w.heap.size w w' := Any.utf8_DecodeRuneInString Tryz.lays197 s w hT
end Go.Proofs
/-
  TEXT, WALKS A: control characters, bytes that begin none, plain texts.
-/


namespace Go.Proofs.YtohngjkedhpikaaGreatDoor
open Go.RowKit
attribute [local go_sem] Old.refl Old.alloc Old.drew Old.setCell OldW.old

/-- the two tables of package utf8 lie in w and later -/
def Tabs (w : World) : Prop := ∀ W, Old w W → Lib.Utf8Tabs 1 2 W
theorem Tabs.old {w W : World} (h : Tabs w) (o : Old w W) : Tabs W := fun V k => h V (o.trans k)
theorem nat_beq (a b : Nat) : ((a : Int) == (b : Int)) = (a == b) := by rw [Bool.eq_iff_iff, beq_iff_eq, beq_iff_eq]; omega
theorem control_any (r : Int) (w : World) :
    Calls Tryz.prog 160 #[.int .i32 r] w fun e w' => e = .returned (.bool (ctlR r)) ∧ w = w' := by
  by_cases h1 : r < 32
  · have hd : decide (r < 32) = true := by simpa using h1
    have Hv := Lib.hid (show ctlR r = true from by simp [ctlR, h1])
    clear h1
    go_enter Tryz.func160, Tryz.ntmps160
    go_wp2
    all_goals first
      | (exfalso; omega)
      | (go_ret; exact ⟨ret_bool Hv.out.symm, rfl⟩)
  · have hd : decide (r < 32) = false := by simpa using h1
    by_cases h2 : 127 ≤ r
    · have hd2 : decide (127 ≤ r) = true := by simpa using h2
      have Hv := Lib.hid (show ctlR r = decide (r ≤ 159) from by simp [ctlR, hd, hd2])
      clear h1 h2
      go_enter Tryz.func160, Tryz.ntmps160
      go_wp2
      all_goals first
        | (exfalso; omega)
        | (go_ret; exact ⟨ret_bool Hv.out.symm, rfl⟩)
    · have hd2 : decide (127 ≤ r) = false := by simpa using h2
      have Hv := Lib.hid (show ctlR r = false from by simp [ctlR, hd, hd2])
      clear h1 h2
      go_enter Tryz.func160, Tryz.ntmps160
      go_wp2
      all_goals first
        | (exfalso; omega)
        | (go_ret; exact ⟨ret_bool Hv.out.symm, rfl⟩)
theorem decode_any (s : ByteArray) (w : World) (hT : Tabs w) (p : Nat) (hp : p < s.size) :
    Calls Tryz.prog 97 #[.string (s.extract p s.size)] w fun e w' => e = .returned (.tuple #[.int .i32 (chR s.data.toList p), .int .i64 (chN s.data.toList p)]) ∧ Old w w' := by
  refine (Tryz.utf8_DecodeRuneInString _ w (hT w (Old.refl w))).mono ?_
  rintro e w' ⟨rfl, h⟩
  rw [decodeGo_at s hp]
  exact ⟨rfl, h⟩
set_option maxHeartbeats 400000 in
theorem bad_any (s : ByteArray) (p : Nat) (w : World) (hT : Tabs w) (hp : p < s.size) :
    Calls Tryz.prog 161 #[.string s, .int .i64 p] w fun e w' => e = .returned (.bool (badC s.data.toList p)) ∧ Old w w' := by
  have Hc := Lib.hid (decode_any s w hT p hp)
  have Hb := Lib.hid (show badC s.data.toList p = (chR s.data.toList p == 65533 && chN s.data.toList p == 1) from rfl)
  by_cases h1 : chR s.data.toList p = 65533
  · have hb : ((chR s.data.toList p : Int) == 65533) = true := by rw [beq_iff_eq]; omega
    have hb' : (chR s.data.toList p == 65533) = true := by rw [beq_iff_eq]; omega
    rw [hb', Bool.true_and] at Hb
    clear h1 hb'
    go_enter Tryz.func161, Tryz.ntmps161
    go_wp2_with (go_at_call 97; refine Hc.out.mono ?_; rintro r w1 ⟨rfl, ho⟩)
    go_ret
    exact ⟨ret_bool (by rw [Hb.out]; exact nat_beq _ 1), ho⟩
  · have hb : ((chR s.data.toList p : Int) == 65533) = false := by rw [beq_eq_false_iff_ne]; omega
    have hb' : (chR s.data.toList p == 65533) = false := by rw [beq_eq_false_iff_ne]; omega
    rw [hb', Bool.false_and] at Hb
    clear h1 hb'
    go_enter Tryz.func161, Tryz.ntmps161
    go_wp2_with (go_at_call 97; refine Hc.out.mono ?_; rintro r w1 ⟨rfl, ho⟩)
    go_ret
    exact ⟨ret_bool Hb.out.symm, ho⟩
theorem ret_ib {a c : Int} {b d : Bool} (h : a = c) (k : b = d) : Ending.returned (.tuple #[.int .i64 a, .bool b]) = .returned (.tuple #[.int .i64 c, .bool d]) := by rw [h, k]
set_option maxHeartbeats 800000 in
theorem Plain_any (s : ByteArray) (w : World) (hT : Tabs w) :
    Calls Tryz.prog 117 #[.string s] w fun e w' => e = .returned (.tuple #[.int .i64 (plainAt s.data.toList 0).1, .bool (plainAt s.data.toList 0).2]) ∧ Old w w' := by
  go_enter Tryz.func117, Tryz.ntmps117
  go_wp2
  go_loopw [] (fun wr => ∃ (pos : Nat), pos ≤ s.size ∧ wr.heap[w.heap.size]? = some (.stringIter s pos) ∧ Old w wr ∧ plainAt s.data.toList pos = plainAt s.data.toList 0) (fun wr => s.size - wr.iterPos w.heap.size)
  case atStart => exact ⟨0, Nat.zero_le _, by simpa using World.iter_heap w s 0, (Old.refl w).alloc _, rfl⟩
  case round =>
    obtain ⟨pos, hps, hit, ho, hat⟩ := hrel
    have Hat := Lib.hid hat
    clear hat
    by_cases hp : pos < s.size
    · have hnx : ∀ ty, (Instr.next (.pointer (some ⟨w.heap.size, 0, none⟩)) true ty).run Tryz.prog wr = _ := fun ty => next_at wr w.heap.size s pos ty hit hp
      have hn1 := chN_pos s.data.toList pos
      have hn2 := chN_le (l := s.data.toList) (p := pos) (by rw [str_len]; exact hp)
      rw [str_len] at hn2
      have hit2 := Lib.iterAt_heap wr w.heap.size s pos (pos + chN s.data.toList pos) hit
      have ho2 := ho.iterAt (Nat.le_refl _) s (pos + chN s.data.toList pos)
      have hT2 := hT.old ho2
      generalize wr.iterAt w.heap.size s (pos + chN s.data.toList pos) = w2 at *
      by_cases hc : ctlR (chR s.data.toList pos) = true
      · have Hno := Lib.hid (plainAt_no (l := s.data.toList) (p := pos) (by rw [str_len]; exact hp) (by rw [hc]; rfl))
        have Cc := control_any (chR s.data.toList pos) w2
        rw [hc] at Cc
        have Hc := Lib.hid Cc
        clear hc Cc
        go_wp2_with (go_at_call 160; refine Hc.out.mono ?_; rintro r w3 ⟨rfl, rfl⟩)
        go_ret2
        exact ⟨ret_ib (by rw [← Hat.out, Hno.out]) (by rw [← Hat.out, Hno.out]), ho2⟩
      · have hc := Bool.eq_false_iff.2 hc
        have Cc := control_any (chR s.data.toList pos) w2
        rw [hc] at Cc
        have Hc := Lib.hid Cc
        by_cases h5 : chR s.data.toList pos = 65533
        · have hb5 : ((chR s.data.toList pos : Int) == 65533) = true := by rw [beq_iff_eq]; omega
          have Cb := bad_any s pos w2 hT2 hp
          by_cases hb : badC s.data.toList pos = true
          · have Hno := Lib.hid (plainAt_no (l := s.data.toList) (p := pos) (by rw [str_len]; exact hp) (by rw [hb, Bool.or_true]))
            rw [hb] at Cb
            have Hb := Lib.hid Cb
            clear hc Cc Cb hb h5
            go_wp2_with (first | (go_at_call 160; refine Hc.out.mono ?_; rintro r w3 ⟨rfl, rfl⟩) | (go_at_call 161; refine Hb.out.mono ?_; rintro r w3 ⟨rfl, ho3⟩))
            go_ret2
            exact ⟨ret_ib (by rw [← Hat.out, Hno.out]) (by rw [← Hat.out, Hno.out]), ho2.trans ho3⟩
          · have hb := Bool.eq_false_iff.2 hb
            have Hon := Lib.hid (plainAt_on (l := s.data.toList) (p := pos) (by rw [str_len]; exact hp) (by rw [hc, hb]; rfl))
            rw [hb] at Cb
            have Hb := Lib.hid Cb
            clear hc Cc Cb hb h5
            go_wp2_with (first | (go_at_call 160; refine Hc.out.mono ?_; rintro r w3 ⟨rfl, rfl⟩) | (go_at_call 161; refine Hb.out.mono ?_; rintro r w3 ⟨rfl, ho3⟩))
            have hit3 := ho3.heap hit2
            go_roundw
            case rel => exact ⟨pos + chN s.data.toList pos, by omega, hit3, ho2.trans ho3, by rw [← Hon.out]; exact Hat.out⟩
            case measure => simp only [World.iterPos, hit3, hit]; omega
        · have hb5 : ((chR s.data.toList pos : Int) == 65533) = false := by rw [beq_eq_false_iff_ne]; omega
          have Hon := Lib.hid (plainAt_on (l := s.data.toList) (p := pos) (by rw [str_len]; exact hp) (by rw [hc, show badC s.data.toList pos = false from by unfold badC; rw [show (chR s.data.toList pos == 65533) = false from by rw [beq_eq_false_iff_ne]; exact h5]; rfl]; rfl))
          clear hc Cc h5
          go_wp2_with (go_at_call 160; refine Hc.out.mono ?_; rintro r w3 ⟨rfl, rfl⟩)
          go_roundw
          case rel => exact ⟨pos + chN s.data.toList pos, by omega, hit2, ho2, by rw [← Hon.out]; exact Hat.out⟩
          case measure => simp only [World.iterPos, hit2, hit]; omega
    · have Hend := Lib.hid (plainAt_end (l := s.data.toList) (p := pos) (by rw [str_len]; exact hp))
      have hnx : ∀ ty, (Instr.next (.pointer (some ⟨w.heap.size, 0, none⟩)) true ty).run Tryz.prog wr = _ := fun ty => Lib.run_next_end_at wr w.heap.size s pos ty hit hp
      go_wp2_with fail
      go_ret2
      exact ⟨ret_ib (by rw [← Hat.out, Hend.out]; rfl) (by rw [← Hat.out, Hend.out]), ho⟩
end Go.Proofs.YtohngjkedhpikaaGreatDoor
/-
  A REGION IN THE TEXT's ORDER BY THE QUIET WALK (guards over calls that only read): as Derived/Deep/Quiet.lean's theorem for regions that draw.
-/

namespace Go.Proofs.YtohngjkedhpikaaGreatDoor
open Go.RowKit
theorem wpList_of_quiet {P : Program} {ops : Array Oper} {C : World → Prop} {K : Act → Prop} {Q : Exit → Act → World → Prop} (hQ : ∀ a w, C w → K a → Q .normal a w) :
    ∀ (l : List Oper) (a : Act) (w : World), C w → wpQuiet P ops C K l a → wpList P ops Q l a w
  | [], a, w, hw, h => hQ a w hw h
  | o :: rest, a, w, hw, h => by
    unfold wpQuiet at h
    unfold wpList
    split
    · rename_i hwant
      rw [if_pos hwant] at h
      exact .inl (Oper.wp_of_quiet hw (fun a' w' hw' h' => wpList_of_quiet hQ rest a' w' hw' h') h)
    · rename_i hwant
      rw [if_neg hwant] at h
      exact wpList_of_quiet hQ rest _ w hw h
/-- the very world -/
structure IsW (w : World) where
  w' : World
  same : w = w'
instance (w : World) : Nonempty (IsW w) := ⟨⟨w, rfl⟩⟩
/-- a region in the text's order, of operations and calls that leave the world as it was -/
theorem wp_region_calm {P : Program} {id : Nat} {Q : Exit → Act → World → Prop} {a : Act} {w : World} {l : List Oper}
    (h : wpQuiet P l.toArray (fun w' => ∃ W : IsW w, w' = W.w') (fun a' => Q .normal a' w) l a) : (Code.region id l.toArray false).wp P Q a w :=
  wp_region_lit (wpList_of_quiet (C := fun w' => ∃ W : IsW w, w' = W.w') (K := fun a' => Q .normal a' w) (fun a' w' hw h' => by obtain ⟨W, rfl⟩ := hw; rw [← W.same]; exact h') l a w ⟨⟨w, rfl⟩, rfl⟩ h)
theorem Calls.calm {P : Program} {f : FuncId} {args : Array Value} {w : World} {W : IsW w} {v : Value} (h : Calls P f args W.w' fun e w' => e = .returned v ∧ W.w' = w') :
    Calls P f args W.w' fun e w'' => e = .returned v ∧ ∃ V : IsW w, w'' = V.w' := h.mono fun _ _ ⟨a, b⟩ => ⟨a, ⟨_, W.same.trans b⟩, rfl⟩
/-- a region in the text's order, of operations that read and calls that only add to memory -/
theorem wp_region_mild {P : Program} {id : Nat} {Q : Exit → Act → World → Prop} {a : Act} {w0 w : World} {l : List Oper} (h0 : Old w0 w)
    (h : wpQuiet P l.toArray (fun w' => ∃ W : OldW w0, w' = W.w') (fun a' => ∀ W : OldW w0, Q .normal a' W.w') l a) : (Code.region id l.toArray false).wp P Q a w :=
  wp_region_lit (wpList_of_quiet (C := fun w' => ∃ W : OldW w0, w' = W.w') (K := fun a' => ∀ W : OldW w0, Q .normal a' W.w') (fun a' w' hw h' => by obtain ⟨W, rfl⟩ := hw; exact h' W) l a w ⟨⟨w, h0⟩, rfl⟩ h)
end Go.Proofs.YtohngjkedhpikaaGreatDoor
