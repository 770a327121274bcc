/-
  strings.Builder AT THIS DUMP: its writers (a builder that the call has made, only written since).
-/
import Derived.Test.YtpifkinlaicliaaGreatDoorZShelf02
import Derived.Test.YtpifkinlaicliaaGreatDoorZBase
import Derived.Lib.RuneBytes
import Derived.Deep.DeepCutAuto
namespace Go.Proofs.YtpifkinlaicliaaGreatDoor
open Go.RowKit

def Bld (B b : Nat) (bs : List Value) (w : World) : Prop := Lib.IsBuilder 112 5 B b bs w
def BldAt (B b : Nat) (bs : List Value) (w : World) : Prop := Lib.BuilderAt 112 5 B b (.pointer (some ⟨b, 0, none⟩)) bs w
theorem infoB : (Tryz.prog.info? 5).map (fun i => (i.zero, i.size, i.bytes)) = some (some (.int .u8 0), 1, 1) := by kernel_rfl
theorem sizeB : (Tryz.prog.info? 112).map (·.size) = some 2 := by kernel_rfl
set_option maxHeartbeats 1000000 in
set_option maxRecDepth 100000 in
theorem copyCheck_used (b : Nat) (w : World) (h0 : w.cell? ⟨b, 0, none⟩ = some (.pointer (some ⟨b, 0, none⟩))) :
    Calls Tryz.prog 91 #[.pointer (some ⟨b, 0, none⟩)] w fun e w' => e = .returned (.tuple #[]) ∧ w' = w := by
  obtain ⟨j, hj, _⟩ := Option.map_eq_some_iff.1 sizeB
  go_enter Tryz.func91, Tryz.ntmps91
  go_wp2
  rw [Lib.run_neq_ptr_same w _ Tryz.underlying109 hj]
  go_wp2
  go_end0
  exact ⟨rfl, rfl⟩
set_option maxHeartbeats 1000000 in
set_option maxRecDepth 100000 in
theorem copyCheck_fresh (b : Nat) (w : World) (h0 : w.cell? ⟨b, 0, none⟩ = some (.pointer none)) (hsh : w.shape? b = some (112, 2)) (hfz : w.frozen? ⟨b, 0, none⟩ = false) :
    Calls Tryz.prog 91 #[.pointer (some ⟨b, 0, none⟩)] w fun e w' => e = .returned (.tuple #[]) ∧ w' = w.setCell ⟨b, 0, none⟩ (.pointer (some ⟨b, 0, none⟩)) := by
  obtain ⟨j, hj, hjs⟩ := Option.map_eq_some_iff.1 sizeB
  go_enter Tryz.func91, Tryz.ntmps91
  go_wp2
  rw [Lib.run_to_unsafe w ⟨b, 0, none⟩ Tryz.underlying109 Tryz.underlying177 hj (by rw [hjs]; decide) hsh (Nat.zero_lt_succ 1)]
  simp only [Result.andThen]
  rw [Oper.upon_value]
  go_wp2
  rw [run_callFunc_extern Tryz.func107 (by kernel_rfl) (by kernel_rfl) (by kernel_rfl) (e := Extern.AbiNoEscape.same) (by kernel_rfl)]
  rw [Lib.run_noEscape]
  simp only [Result.andThen]
  rw [Oper.upon_value]
  go_wp2
  rw [Lib.run_from_unsafe w ⟨b, 0, none⟩ Tryz.underlying177 Tryz.underlying109 hj hsh (by kernel_rfl)]
  simp only [Result.andThen]
  rw [Oper.upon_value]
  go_wp2
  go_end0
  exact ⟨rfl, rfl⟩
theorem copyCheck_any (B b : Nat) (bs : List Value) (w : World) (h : Bld B b bs w) :
    Calls Tryz.prog 91 #[.pointer (some ⟨b, 0, none⟩)] w fun e w' => e = .returned (.tuple #[]) ∧ BldAt B b bs w' ∧ Below B w w' := by
  rcases h with h | h
  · refine (copyCheck_fresh b w h.cell0 h.shape h.frozen0).mono ?_
    rintro e w' ⟨rfl, rfl⟩
    exact ⟨rfl, h.used _, (Below.refl B w).setCell (p := ⟨b, 0, none⟩) h.1 _⟩
  · refine (copyCheck_used b w h.cell0).mono ?_
    rintro e w' ⟨rfl, rfl⟩
    exact ⟨rfl, h, Below.refl B _⟩
set_option maxHeartbeats 1000000 in
set_option maxRecDepth 100000 in
theorem WriteByte_any (B b : Nat) (bs : List Value) (c : Int) (w : World) (h : Bld B b bs w) (hlen : bs.length + 1 ≤ 140737488355328) (hBw : B ≤ w.heap.size) :
    Calls Tryz.prog 63 #[.pointer (some ⟨b, 0, none⟩), .int .u8 c] w fun e w' => e = .returned .nilIface ∧ (BldAt B b (bs ++ [.int .u8 c]) w' ∧ Below B w w') := by
  obtain ⟨i0, hi, hz0, hz1, hz2⟩ := info_parts infoB
  go_enter Tryz.func63, Tryz.ntmps63
  go_wp2_with (go_at_call 91; refine (copyCheck_any B b bs _ h).mono ?_)
  rintro e w1 ⟨rfl, h1, hb1⟩
  obtain ⟨hB, v, hbk, hown, hne⟩ := h1
  have c0 : w1.cell? ⟨b, 0, none⟩ = some (.pointer (some ⟨b, 0, none⟩)) := by rw [Lib.cell_of_heap hbk]; rfl
  have c1 : w1.cell? ⟨b, 1, none⟩ = some v := by rw [Lib.cell_of_heap hbk]; rfl
  go_wp2_with (at_builtin; refine wpList_append_own _ rfl _ _ 110 rfl B 5 i0 (.int .u8 0) 1 1 Tryz.underlying110 hi hz0 hz1 hz2 rfl (by decide) _ _ _ rfl (hown.alloc _) ⟨w1.heap.size, 0, none⟩ 1 1 [.int .u8 c] rfl rfl ?c1 ?c2 ?c3 ?c4 ?c5 ?_)
  case c1 =>
    intro j u hj
    match j, hj with
    | 0, hj => simp at hj; subst hj; simp [Addr.add]
  case c2 => intro u hu; simp at hu; subst hu; rfl
  case c3 => unfold maxLen; omega
  case c4 => omega
  case c5 => have := hb1.size; simp; omega
  intro v' w2 hown' hgrow _
  have hlt : b < w1.heap.size := by
    rcases Nat.lt_or_ge b w1.heap.size with h' | h'
    · exact h'
    · simp [Array.getElem?_eq_none h'] at hbk
  have hb2 : w2.heap[b]? = some (.cells #[.pointer (some ⟨b, 0, none⟩), v] 112 (0, 0)) := by
    rw [hgrow.block b (by simp; omega) (fun e => hne e.symm), Lib.alloc_old w1 _ b hlt]
    exact hbk
  have d0 : w2.cell? ⟨b, 0, none⟩ = some (.pointer (some ⟨b, 0, none⟩)) := by rw [Lib.cell_of_heap hb2]; rfl
  have d1 : w2.cell? ⟨b, 1, none⟩ = some v := by rw [Lib.cell_of_heap hb2]; rfl
  have f1 : w2.frozen? ⟨b, 1, none⟩ = false := Lib.frozen_of_heap hb2 1
  obtain ⟨g, cap, rfl⟩ : ∃ g cap, v' = .slice (some ⟨g, 0, none⟩) (bs.length + 1) cap := by
    rcases hown'.2 with ⟨_, h0⟩ | ⟨g, cap, cur, hv, _⟩
    · omega
    · exact ⟨g, cap, hv⟩
  go_wp2
  go_ret
  refine ⟨rfl, ?_, ?_⟩
  · exact Lib.BuilderAt.put (T := 112) (e := 5) hB hb2 (bs' := bs ++ [.int .u8 c]) (by simpa using hown') (by decide)
  · exact ((hb1.alloc (by have := hb1.size; omega) _).grown hgrow (by have := hb1.size; simp; omega) (fun k hk => (hown.lt k hk).1)).setCell (p := ⟨b, 1, none⟩) hB _
set_option maxHeartbeats 2000000 in
set_option maxRecDepth 100000 in
theorem WriteRune_any (B b : Nat) (bs : List Value) (r : Int) (hr0 : -2147483648 ≤ r) (hr1 : r ≤ 2147483647) (w : World) (h : Bld B b bs w) (hlen : bs.length + 4 ≤ 140737488355328) (hBw : B ≤ w.heap.size) :
    Calls Tryz.prog 64 #[.pointer (some ⟨b, 0, none⟩), .int .i32 r] w fun e w' => e = .returned (.tuple #[.int .i64 (Lib.runeCells r).length, .nilIface]) ∧ (BldAt B b (bs ++ Lib.runeCells r) w' ∧ Below B w w') := by
  have hk4 := Lib.runeCells_le r
  go_enter Tryz.func64, Tryz.ntmps64
  go_wp2_with (go_at_call 91; refine (copyCheck_any B b bs _ h).mono ?_)
  rintro e w1 ⟨rfl, h1, hb1⟩
  obtain ⟨hB, v, hbk, hown, hne⟩ := h1
  obtain ⟨ao, cap, rfl⟩ : ∃ ao cap, v = .slice ao bs.length cap := by
    rcases hown.2 with ⟨hv, h0⟩ | ⟨g, cap, cur, hv, _⟩
    · exact ⟨none, 0, by rw [hv, h0]⟩
    · exact ⟨_, _, hv⟩
  have c0 : w1.cell? ⟨b, 0, none⟩ = some (.pointer (some ⟨b, 0, none⟩)) := by rw [Lib.cell_of_heap hbk]; rfl
  have c1 : w1.cell? ⟨b, 1, none⟩ = some (.slice ao bs.length cap) := by rw [Lib.cell_of_heap hbk]; rfl
  go_wp2_with (go_at_call 92; refine (Tryz.utf8_AppendRune_plain B _ bs.length bs r hr0 hr1 _ hown hlen (by have := hb1.size; omega)).mono ?_)
  rintro e w2 ⟨v', rfl, hown', o, hgrow⟩
  have hlt : b < w1.heap.size := by
    rcases Nat.lt_or_ge b w1.heap.size with h' | h'
    · exact h'
    · simp [Array.getElem?_eq_none h'] at hbk
  have hb2 : w2.heap[b]? = some (.cells #[.pointer (some ⟨b, 0, none⟩), .slice ao bs.length cap] 112 (0, 0)) := by
    rw [hgrow.block b (by simp; omega) (fun e => hne e.symm), Lib.alloc_old w1 _ b hlt]
    exact hbk
  have d0 : w2.cell? ⟨b, 0, none⟩ = some (.pointer (some ⟨b, 0, none⟩)) := by rw [Lib.cell_of_heap hb2]; rfl
  have d1 : w2.cell? ⟨b, 1, none⟩ = some (.slice ao bs.length cap) := by rw [Lib.cell_of_heap hb2]; rfl
  have f1 : w2.frozen? ⟨b, 1, none⟩ = false := Lib.frozen_of_heap hb2 1
  have hp4 := Lib.encodeRuneZ_length r
  have hrl : (Lib.runeCells r).length = (Lib.encodeRuneZ r).length := by simp [Lib.runeCells]
  obtain ⟨g, cap', rfl⟩ : ∃ g cap', v' = .slice (some ⟨g, 0, none⟩) (bs.length + (Lib.runeCells r).length) cap' := by
    rcases hown'.2 with ⟨_, h0⟩ | ⟨g, cap', cur, hv, _⟩
    · omega
    · exact ⟨g, cap', hv⟩
  clear hrl hp4
  go_wp2
  go_ret2
  refine ⟨?_, ?_, ?_⟩
  · have e : ((bs.length : Int) + ((Lib.runeCells r).length : Int) - (bs.length : Int)) = ((Lib.runeCells r).length : Int) := by omega
    simp [e]
  · exact Lib.BuilderAt.put (T := 112) (e := 5) hB hb2 (bs' := bs ++ Lib.runeCells r) (by simpa using hown') (by decide)
  · exact ((hb1.alloc (by have := hb1.size; omega) _).grown hgrow (by have := hb1.size; simp; omega) (fun k hk => (hown.lt k hk).1)).setCell (p := ⟨b, 1, none⟩) hB _
end Go.Proofs.YtpifkinlaicliaaGreatDoor
/-
  TEXT, FOLD.
-/



namespace Go.Proofs.YtpifkinlaicliaaGreatDoor
open Go.RowKit
attribute [local go_sem] Old.refl Old.alloc Old.drew Old.setCell OldW.old

theorem Bld.old {B b : Nat} {bs : List Value} {w W : World} (h : Bld B b bs w) (o : Old w W) : Bld B b bs W := by
  rcases h with ⟨hB, v, hb, hown, hne⟩ | ⟨hB, v, hb, hown, hne⟩
  · exact .inl ⟨hB, v, o.heap hb, World.ownsRow.kept hown (Old.grownBy o none) (by cases hv : v.ownBlock <;> simp), hne⟩
  · exact .inr ⟨hB, v, o.heap hb, World.ownsRow.kept hown (Old.grownBy o none) (by cases hv : v.ownBlock <;> simp), hne⟩
/-- the bytes that a character is folded to -/
def foldC (s : ByteArray) (p : Nat) : List UInt8 := if badC s.data.toList p then [s.data.toList.getD p 0] else Lib.encodeRune (smallC (chR s.data.toList p))
/-- a text folded, from a place on, behind what there is -/
def foldGo (s : ByteArray) (p : Nat) (waits : Bool) (t : List UInt8) : List UInt8 :=
  if p < s.size then
    (if chR s.data.toList p = 32 then foldGo s (p + 1) (decide (0 < t.length)) t
     else foldGo s (p + chN s.data.toList p) false ((if waits then t ++ [32] else t) ++ foldC s p))
  else t
termination_by s.size - p
decreasing_by
  · omega
  · have := chN_pos s.data.toList p; omega
theorem foldGo_sp {s : ByteArray} {p : Nat} (h : p < s.size) (h' : chR s.data.toList p = 32) (wt : Bool) (t : List UInt8) : foldGo s p wt t = foldGo s (p + 1) (decide (0 < t.length)) t := by rw [foldGo, if_pos h, if_pos h']
theorem foldGo_on {s : ByteArray} {p : Nat} (h : p < s.size) (h' : ¬ chR s.data.toList p = 32) (wt : Bool) (t : List UInt8) : foldGo s p wt t = foldGo s (p + chN s.data.toList p) false ((if wt then t ++ [32] else t) ++ foldC s p) := by rw [foldGo, if_pos h, if_neg h']
theorem foldGo_end {s : ByteArray} {p : Nat} (h : ¬ p < s.size) (wt : Bool) (t : List UInt8) : foldGo s p wt t = t := by rw [foldGo, if_neg h]
def foldB (s : ByteArray) : List UInt8 := foldGo s 0 false []
def foldS (s : ByteArray) : ByteArray := ⟨(foldB s).toArray⟩
theorem cells_one (b : UInt8) : Lib.byteCells [b] = [.int .u8 b.toNat] := rfl
set_option maxRecDepth 100000 in
set_option maxHeartbeats 6400000 in
theorem Fold_any (s : ByteArray) (w : World) (hT : Tabs w) (hs : s.size ≤ 4194304) :
    Calls Tryz.prog 33 #[.string s] w fun e w' => e = .returned (.string (foldS s)) ∧ Old w w' := by
  go_enter Tryz.func33, Tryz.ntmps33
  go_wp2_with fail
  have hfresh : Bld w.heap.size w.heap.size [] (w.alloc (.cells #[.pointer none, .slice none 0 0] 112)) := Lib.fresh_isBuilder _ _ w
  have ho0 : Old w (w.alloc (.cells #[.pointer none, .slice none 0 0] 112)) := (Old.refl w).alloc _
  go_loopw [4, 5] (fun x i wr => ∃ (p : Nat) (wt : Bool) (t : List UInt8), p ≤ s.size ∧ t.length ≤ 5 * p ∧ x = .bool wt ∧ i = .int .i64 p ∧ Bld w.heap.size w.heap.size (Lib.byteCells t) wr ∧ Old w wr ∧ foldGo s p wt t = foldB s) (fun _ i _ => s.size - (intOf i).toNat)
  case atStart => exact ⟨0, false, [], Nat.zero_le _, Nat.zero_le _, rfl, rfl, hfresh, ho0, rfl⟩
  case round =>
    obtain ⟨p, wt, t, hp, htl, rfl, rfl, hbld, ho, hat⟩ := hrel
    have Hat := Lib.hid hat
    have Hb := Lib.hid hbld
    clear hat hbld hfresh ho0
    by_cases hlt : p < s.size
    · have hlt' : (p : Int) < s.size := by omega
      have hn1 := chN_pos s.data.toList p
      have hn2 := chN_le (l := s.data.toList) (p := p) (by rw [str_len]; exact hlt)
      rw [str_len] at hn2
      have hr0 := chR_le s.data.toList p
      have HD := Lib.hid (fun V (o : Old w V) => decode_any s V (hT.old o) p hlt)
      have hbl : (Lib.byteCells t).length = t.length := Lib.byteCells_length t
      by_cases h32 : chR s.data.toList p = 32
      · have Hon := Lib.hid (foldGo_sp hlt h32 wt t)
        rw [h32] at HD
        have HL := Lib.hid (fun V (o : Old wr V) => Tryz.Builder_Len w.heap.size w.heap.size (Lib.byteCells t) V (Hb.out.old o))
        rw [hbl] at HL
        clear h32 hbl
        generalize chN s.data.toList p = n at *
        go_wp2_with (first | (go_at_call 61; refine (HD.out _ ho).mono ?_; rintro e w1 ⟨rfl, ho1⟩) | (go_at_call 62; refine (HL.out _ ho1).mono ?_; rintro e w2 ⟨rfl, rfl⟩))
        go_roundw
        case rel => exact ⟨p + 1, decide (0 < t.length), t, by omega, by omega, rfl, by go_num, Hb.out.old ho1, ho.trans ho1, by rw [← Hon.out]; exact Hat.out⟩
        case measure => simp [intOf]; omega
      · have Hon := Lib.hid (foldGo_on hlt h32 wt t)
        have h32' : ((chR s.data.toList p : Int) == 32) = false := by rw [beq_eq_false_iff_ne]; omega
        have Hbad := Lib.hid (show badC s.data.toList p = (chR s.data.toList p == 65533 && chN s.data.toList p == 1) from rfl)
        have Hfc := Lib.hid (show foldC s p = if badC s.data.toList p then [s.data.toList.getD p 0] else Lib.encodeRune (smallC (chR s.data.toList p)) from rfl)
        have Hby := Lib.hid (byte_get s hlt)
        have HSm := Lib.hid (fun V => Small_any (chR s.data.toList p) V (by omega))
        have hsb := smallC_bounds (r := (chR s.data.toList p : Int)) (by omega)
        clear h32
        generalize chR s.data.toList p = R at *
        generalize chN s.data.toList p = n at *
        generalize badC s.data.toList p = bd at *
        generalize smallC (R : Int) = sm at *
        generalize foldC s p = fc at *
        have hq : (p : Int) + n = ((p + n : Nat) : Int) := by omega
        have hpq : p < p + n := by omega
        generalize p + n = q at *
        cases wt with
        | false =>
          by_cases e1 : R = 65533
          · have e1' : ((R : Int) == 65533) = true := by rw [beq_iff_eq]; omega
            by_cases e2 : n = 1
            · have e2' : ((n : Int) == 1) = true := by rw [beq_iff_eq]; omega
              obtain rfl : bd = true := by rw [Hbad.out, e1, e2]; rfl
              clear e1 e2
              go_upto_region 12 with (first | (go_at_call 61; refine (HD.out _ ho).mono ?_; rintro e w1 ⟨rfl, ho1⟩))
              have hb2' : Bld w.heap.size w.heap.size (Lib.byteCells t) w1 := Hb.out.old ho1
              have how : Old w w1 := ho.trans ho1
              have hbl2 : (Lib.byteCells t).length = t.length := by rw [Lib.byteCells_length]
              clear HD
              go_wp2_with (first | (go_at_call 63; refine (WriteByte_any w.heap.size w.heap.size (Lib.byteCells t) _ _ hb2' (by rw [hbl2]; omega) how.size).mono ?_; rintro e w3 ⟨rfl, hb3, ho3⟩))
              go_roundw
              case rel => exact ⟨q, false, t ++ [s.data.toList.getD p 0], hn2, by simp; omega, rfl, by go_num, by rw [Lib.byteCells_append, cells_one, ← Hby.out]; exact .inr hb3, Below.trans how ho3, by rw [← Hat.out, Hon.out, Hfc.out]; rfl⟩
              case measure => simp [intOf]; omega
            · have e2' : ((n : Int) == 1) = false := by rw [beq_eq_false_iff_ne]; omega
              obtain rfl : bd = false := by rw [Hbad.out, show (n == 1) = false from by rw [beq_eq_false_iff_ne]; exact e2, Bool.and_false]
              clear e1 e2
              go_upto_region 12 with (first | (go_at_call 61; refine (HD.out _ ho).mono ?_; rintro e w1 ⟨rfl, ho1⟩))
              have hb2' : Bld w.heap.size w.heap.size (Lib.byteCells t) w1 := Hb.out.old ho1
              have how : Old w w1 := ho.trans ho1
              have hbl2 : (Lib.byteCells t).length = t.length := by rw [Lib.byteCells_length]
              clear HD
              go_wp2_with (first | (go_at_call 50; refine (HSm.out _).mono ?_; rintro e w3 ⟨rfl, rfl⟩) | (go_at_call 64; refine (WriteRune_any w.heap.size w.heap.size (Lib.byteCells t) sm hsb.1 hsb.2 _ hb2' (by rw [hbl2]; omega) how.size).mono ?_; rintro e w4 ⟨rfl, hb3, ho3⟩))
              have h4 := Lib.runeCells_le sm
              rw [Lib.runeCells_length] at h4
              go_roundw
              case rel => exact ⟨q, false, t ++ Lib.encodeRune sm, hn2, by simp; omega, rfl, by go_num, by rw [Lib.byteCells_append, Lib.byteCells_encodeRune]; exact .inr hb3, Below.trans how ho3, by rw [← Hat.out, Hon.out, Hfc.out]; rfl⟩
              case measure => simp [intOf]; omega
          · have e1' : ((R : Int) == 65533) = false := by rw [beq_eq_false_iff_ne]; omega
            obtain rfl : bd = false := by rw [Hbad.out, show (R == 65533) = false from by rw [beq_eq_false_iff_ne]; exact e1, Bool.false_and]
            clear e1
            go_upto_region 12 with (first | (go_at_call 61; refine (HD.out _ ho).mono ?_; rintro e w1 ⟨rfl, ho1⟩))
            have hb2' : Bld w.heap.size w.heap.size (Lib.byteCells t) w1 := Hb.out.old ho1
            have how : Old w w1 := ho.trans ho1
            have hbl2 : (Lib.byteCells t).length = t.length := by rw [Lib.byteCells_length]
            clear HD
            go_wp2_with (first | (go_at_call 50; refine (HSm.out _).mono ?_; rintro e w3 ⟨rfl, rfl⟩) | (go_at_call 64; refine (WriteRune_any w.heap.size w.heap.size (Lib.byteCells t) sm hsb.1 hsb.2 _ hb2' (by rw [hbl2]; omega) how.size).mono ?_; rintro e w4 ⟨rfl, hb3, ho3⟩))
            have h4 := Lib.runeCells_le sm
            rw [Lib.runeCells_length] at h4
            go_roundw
            case rel => exact ⟨q, false, t ++ Lib.encodeRune sm, hn2, by simp; omega, rfl, by go_num, by rw [Lib.byteCells_append, Lib.byteCells_encodeRune]; exact .inr hb3, Below.trans how ho3, by rw [← Hat.out, Hon.out, Hfc.out]; rfl⟩
            case measure => simp [intOf]; omega
        | true =>
          by_cases e1 : R = 65533
          · have e1' : ((R : Int) == 65533) = true := by rw [beq_iff_eq]; omega
            by_cases e2 : n = 1
            · have e2' : ((n : Int) == 1) = true := by rw [beq_iff_eq]; omega
              obtain rfl : bd = true := by rw [Hbad.out, e1, e2]; rfl
              clear e1 e2
              go_upto_region 11 with (first | (go_at_call 61; refine (HD.out _ ho).mono ?_; rintro e w1 ⟨rfl, ho1⟩) | (go_at_call 63; refine (WriteByte_any w.heap.size w.heap.size (Lib.byteCells t) 32 _ (Hb.out.old ho1) (by rw [hbl]; omega) ((ho.trans ho1).size)).mono ?_; rintro e w2 ⟨rfl, hb2, ho2⟩))
              have hb2' : Bld w.heap.size w.heap.size (Lib.byteCells (t ++ [32])) w2 := by rw [Lib.byteCells_append]; exact .inr hb2
              have how : Old w w2 := Below.trans (ho.trans ho1) ho2
              have hbl2 : (Lib.byteCells (t ++ [32])).length = t.length + 1 := by rw [Lib.byteCells_length]; simp
              clear HD
              go_wp2_with (first | (go_at_call 63; refine (WriteByte_any w.heap.size w.heap.size (Lib.byteCells (t ++ [32])) _ _ hb2' (by rw [hbl2]; omega) how.size).mono ?_; rintro e w3 ⟨rfl, hb3, ho3⟩))
              go_roundw
              case rel => exact ⟨q, false, (t ++ [32]) ++ [s.data.toList.getD p 0], hn2, by simp; omega, rfl, by go_num, by rw [Lib.byteCells_append, cells_one, ← Hby.out]; exact .inr hb3, Below.trans how ho3, by rw [← Hat.out, Hon.out, Hfc.out]; rfl⟩
              case measure => simp [intOf]; omega
            · have e2' : ((n : Int) == 1) = false := by rw [beq_eq_false_iff_ne]; omega
              obtain rfl : bd = false := by rw [Hbad.out, show (n == 1) = false from by rw [beq_eq_false_iff_ne]; exact e2, Bool.and_false]
              clear e1 e2
              go_upto_region 11 with (first | (go_at_call 61; refine (HD.out _ ho).mono ?_; rintro e w1 ⟨rfl, ho1⟩) | (go_at_call 63; refine (WriteByte_any w.heap.size w.heap.size (Lib.byteCells t) 32 _ (Hb.out.old ho1) (by rw [hbl]; omega) ((ho.trans ho1).size)).mono ?_; rintro e w2 ⟨rfl, hb2, ho2⟩))
              have hb2' : Bld w.heap.size w.heap.size (Lib.byteCells (t ++ [32])) w2 := by rw [Lib.byteCells_append]; exact .inr hb2
              have how : Old w w2 := Below.trans (ho.trans ho1) ho2
              have hbl2 : (Lib.byteCells (t ++ [32])).length = t.length + 1 := by rw [Lib.byteCells_length]; simp
              clear HD
              go_wp2_with (first | (go_at_call 50; refine (HSm.out _).mono ?_; rintro e w3 ⟨rfl, rfl⟩) | (go_at_call 64; refine (WriteRune_any w.heap.size w.heap.size (Lib.byteCells (t ++ [32])) sm hsb.1 hsb.2 _ hb2' (by rw [hbl2]; omega) how.size).mono ?_; rintro e w4 ⟨rfl, hb3, ho3⟩))
              have h4 := Lib.runeCells_le sm
              rw [Lib.runeCells_length] at h4
              go_roundw
              case rel => exact ⟨q, false, (t ++ [32]) ++ Lib.encodeRune sm, hn2, by simp; omega, rfl, by go_num, by rw [Lib.byteCells_append, Lib.byteCells_encodeRune]; exact .inr hb3, Below.trans how ho3, by rw [← Hat.out, Hon.out, Hfc.out]; rfl⟩
              case measure => simp [intOf]; omega
          · have e1' : ((R : Int) == 65533) = false := by rw [beq_eq_false_iff_ne]; omega
            obtain rfl : bd = false := by rw [Hbad.out, show (R == 65533) = false from by rw [beq_eq_false_iff_ne]; exact e1, Bool.false_and]
            clear e1
            go_upto_region 11 with (first | (go_at_call 61; refine (HD.out _ ho).mono ?_; rintro e w1 ⟨rfl, ho1⟩) | (go_at_call 63; refine (WriteByte_any w.heap.size w.heap.size (Lib.byteCells t) 32 _ (Hb.out.old ho1) (by rw [hbl]; omega) ((ho.trans ho1).size)).mono ?_; rintro e w2 ⟨rfl, hb2, ho2⟩))
            have hb2' : Bld w.heap.size w.heap.size (Lib.byteCells (t ++ [32])) w2 := by rw [Lib.byteCells_append]; exact .inr hb2
            have how : Old w w2 := Below.trans (ho.trans ho1) ho2
            have hbl2 : (Lib.byteCells (t ++ [32])).length = t.length + 1 := by rw [Lib.byteCells_length]; simp
            clear HD
            go_wp2_with (first | (go_at_call 50; refine (HSm.out _).mono ?_; rintro e w3 ⟨rfl, rfl⟩) | (go_at_call 64; refine (WriteRune_any w.heap.size w.heap.size (Lib.byteCells (t ++ [32])) sm hsb.1 hsb.2 _ hb2' (by rw [hbl2]; omega) how.size).mono ?_; rintro e w4 ⟨rfl, hb3, ho3⟩))
            have h4 := Lib.runeCells_le sm
            rw [Lib.runeCells_length] at h4
            go_roundw
            case rel => exact ⟨q, false, (t ++ [32]) ++ Lib.encodeRune sm, hn2, by simp; omega, rfl, by go_num, by rw [Lib.byteCells_append, Lib.byteCells_encodeRune]; exact .inr hb3, Below.trans how ho3, by rw [← Hat.out, Hon.out, Hfc.out]; rfl⟩
            case measure => simp [intOf]; omega
    · obtain rfl : p = s.size := by omega
      have Hend := Lib.hid (foldGo_end (s := s) (p := s.size) hlt wt t)
      have HS := Lib.hid (Tryz.Builder_String_any w.heap.size w.heap.size t wr Hb.out ho.size)
      go_wp2_with fail
      refine HS.out.mono ?_
      rintro e w1 ⟨rfl, hb1⟩
      go_wp2_with fail
      go_ret
      exact ⟨by unfold foldS; rw [← Hat.out, Hend.out]; rfl, Below.trans ho hb1⟩
end Go.Proofs.YtpifkinlaicliaaGreatDoor
