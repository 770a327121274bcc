/-
  TEXT, FOLD.
-/
import Derived.Test.YtohngjkedhpikaaGreatDoorZTextWords
import Derived.Test.YtohngjkedhpikaaGreatDoorZBuilder
import Derived.Deep.DeepCutAuto
import Derived.Test.YtohngjkedhpikaaGreatDoorProg
import Derived.Stop.Asserts
import Derived.Handy
namespace Go.Proofs.YtohngjkedhpikaaGreatDoor
open Go.RowKit
attribute [local go_sem] Old.refl Old.alloc Old.drew Old.setCell OldW.old

theorem Bld.old {B b : Nat} {bs : List Value} {w W : World} (h : Bld B b bs w) (o : Old w W) : Bld B b bs W := by
  rcases h with ⟨hB, v, hb, hown, hne⟩ | ⟨hB, v, hb, hown, hne⟩
  · exact .inl ⟨hB, v, o.heap hb, World.ownsRow.kept hown (Old.grownBy o none) (by cases hv : v.ownBlock <;> simp), hne⟩
  · exact .inr ⟨hB, v, o.heap hb, World.ownsRow.kept hown (Old.grownBy o none) (by cases hv : v.ownBlock <;> simp), hne⟩
/-- the bytes that a character is folded to -/
def foldC (s : ByteArray) (p : Nat) : List UInt8 := if badC s.data.toList p then [s.data.toList.getD p 0] else Lib.encodeRune (smallC (chR s.data.toList p))
/-- a text folded, from a place on, behind what there is -/
def foldGo (s : ByteArray) (p : Nat) (waits : Bool) (t : List UInt8) : List UInt8 :=
  if p < s.size then
    (if chR s.data.toList p = 32 then foldGo s (p + 1) (decide (0 < t.length)) t
     else foldGo s (p + chN s.data.toList p) false ((if waits then t ++ [32] else t) ++ foldC s p))
  else t
termination_by s.size - p
decreasing_by
  · omega
  · have := chN_pos s.data.toList p; omega
theorem foldGo_sp {s : ByteArray} {p : Nat} (h : p < s.size) (h' : chR s.data.toList p = 32) (wt : Bool) (t : List UInt8) : foldGo s p wt t = foldGo s (p + 1) (decide (0 < t.length)) t := by rw [foldGo, if_pos h, if_pos h']
theorem foldGo_on {s : ByteArray} {p : Nat} (h : p < s.size) (h' : ¬ chR s.data.toList p = 32) (wt : Bool) (t : List UInt8) : foldGo s p wt t = foldGo s (p + chN s.data.toList p) false ((if wt then t ++ [32] else t) ++ foldC s p) := by rw [foldGo, if_pos h, if_neg h']
theorem foldGo_end {s : ByteArray} {p : Nat} (h : ¬ p < s.size) (wt : Bool) (t : List UInt8) : foldGo s p wt t = t := by rw [foldGo, if_neg h]
def foldB (s : ByteArray) : List UInt8 := foldGo s 0 false []
def foldS (s : ByteArray) : ByteArray := ⟨(foldB s).toArray⟩
theorem cells_one (b : UInt8) : Lib.byteCells [b] = [.int .u8 b.toNat] := rfl
set_option maxRecDepth 100000 in
set_option maxHeartbeats 6400000 in
theorem Fold_any (s : ByteArray) (w : World) (hT : Tabs w) (hs : s.size ≤ 4194304) :
    Calls Tryz.prog 51 #[.string s] w fun e w' => e = .returned (.string (foldS s)) ∧ Old w w' := by
  go_enter Tryz.func51, Tryz.ntmps51
  go_wp2_with fail
  have hfresh : Bld w.heap.size w.heap.size [] (w.alloc (.cells #[.pointer none, .slice none 0 0] 143)) := Lib.fresh_isBuilder _ _ w
  have ho0 : Old w (w.alloc (.cells #[.pointer none, .slice none 0 0] 143)) := (Old.refl w).alloc _
  go_loopw [4, 5] (fun x i wr => ∃ (p : Nat) (wt : Bool) (t : List UInt8), p ≤ s.size ∧ t.length ≤ 5 * p ∧ x = .bool wt ∧ i = .int .i64 p ∧ Bld w.heap.size w.heap.size (Lib.byteCells t) wr ∧ Old w wr ∧ foldGo s p wt t = foldB s) (fun _ i _ => s.size - (intOf i).toNat)
  case atStart => exact ⟨0, false, [], Nat.zero_le _, Nat.zero_le _, rfl, rfl, hfresh, ho0, rfl⟩
  case round =>
    obtain ⟨p, wt, t, hp, htl, rfl, rfl, hbld, ho, hat⟩ := hrel
    have Hat := Lib.hid hat
    have Hb := Lib.hid hbld
    clear hat hbld hfresh ho0
    by_cases hlt : p < s.size
    · have hlt' : (p : Int) < s.size := by omega
      have hn1 := chN_pos s.data.toList p
      have hn2 := chN_le (l := s.data.toList) (p := p) (by rw [str_len]; exact hlt)
      rw [str_len] at hn2
      have hr0 := chR_le s.data.toList p
      have HD := Lib.hid (fun V (o : Old w V) => decode_any s V (hT.old o) p hlt)
      have hbl : (Lib.byteCells t).length = t.length := Lib.byteCells_length t
      by_cases h32 : chR s.data.toList p = 32
      · have Hon := Lib.hid (foldGo_sp hlt h32 wt t)
        rw [h32] at HD
        have HL := Lib.hid (fun V (o : Old wr V) => Tryz.Builder_Len w.heap.size w.heap.size (Lib.byteCells t) V (Hb.out.old o))
        rw [hbl] at HL
        clear h32 hbl
        generalize chN s.data.toList p = n at *
        go_wp2_with (first | (go_at_call 97; refine (HD.out _ ho).mono ?_; rintro e w1 ⟨rfl, ho1⟩) | (go_at_call 98; refine (HL.out _ ho1).mono ?_; rintro e w2 ⟨rfl, rfl⟩))
        go_roundw
        case rel => exact ⟨p + 1, decide (0 < t.length), t, by omega, by omega, rfl, by go_num, Hb.out.old ho1, ho.trans ho1, by rw [← Hon.out]; exact Hat.out⟩
        case measure => simp [intOf]; omega
      · have Hon := Lib.hid (foldGo_on hlt h32 wt t)
        have h32' : ((chR s.data.toList p : Int) == 32) = false := by rw [beq_eq_false_iff_ne]; omega
        have Hbad := Lib.hid (show badC s.data.toList p = (chR s.data.toList p == 65533 && chN s.data.toList p == 1) from rfl)
        have Hfc := Lib.hid (show foldC s p = if badC s.data.toList p then [s.data.toList.getD p 0] else Lib.encodeRune (smallC (chR s.data.toList p)) from rfl)
        have Hby := Lib.hid (byte_get s hlt)
        have HSm := Lib.hid (fun V => Small_any (chR s.data.toList p) V (by omega))
        have hsb := smallC_bounds (r := (chR s.data.toList p : Int)) (by omega)
        clear h32
        generalize chR s.data.toList p = R at *
        generalize chN s.data.toList p = n at *
        generalize badC s.data.toList p = bd at *
        generalize smallC (R : Int) = sm at *
        generalize foldC s p = fc at *
        have hq : (p : Int) + n = ((p + n : Nat) : Int) := by omega
        have hpq : p < p + n := by omega
        generalize p + n = q at *
        cases wt with
        | false =>
          by_cases e1 : R = 65533
          · have e1' : ((R : Int) == 65533) = true := by rw [beq_iff_eq]; omega
            by_cases e2 : n = 1
            · have e2' : ((n : Int) == 1) = true := by rw [beq_iff_eq]; omega
              obtain rfl : bd = true := by rw [Hbad.out, e1, e2]; rfl
              clear e1 e2
              go_upto_region 12 with (first | (go_at_call 97; refine (HD.out _ ho).mono ?_; rintro e w1 ⟨rfl, ho1⟩))
              have hb2' : Bld w.heap.size w.heap.size (Lib.byteCells t) w1 := Hb.out.old ho1
              have how : Old w w1 := ho.trans ho1
              have hbl2 : (Lib.byteCells t).length = t.length := by rw [Lib.byteCells_length]
              clear HD
              go_wp2_with (first | (go_at_call 99; refine (WriteByte_any w.heap.size w.heap.size (Lib.byteCells t) _ _ hb2' (by rw [hbl2]; omega) how.size).mono ?_; rintro e w3 ⟨rfl, hb3, ho3⟩))
              go_roundw
              case rel => exact ⟨q, false, t ++ [s.data.toList.getD p 0], hn2, by simp; omega, rfl, by go_num, by rw [Lib.byteCells_append, cells_one, ← Hby.out]; exact .inr hb3, Below.trans how ho3, by rw [← Hat.out, Hon.out, Hfc.out]; rfl⟩
              case measure => simp [intOf]; omega
            · have e2' : ((n : Int) == 1) = false := by rw [beq_eq_false_iff_ne]; omega
              obtain rfl : bd = false := by rw [Hbad.out, show (n == 1) = false from by rw [beq_eq_false_iff_ne]; exact e2, Bool.and_false]
              clear e1 e2
              go_upto_region 12 with (first | (go_at_call 97; refine (HD.out _ ho).mono ?_; rintro e w1 ⟨rfl, ho1⟩))
              have hb2' : Bld w.heap.size w.heap.size (Lib.byteCells t) w1 := Hb.out.old ho1
              have how : Old w w1 := ho.trans ho1
              have hbl2 : (Lib.byteCells t).length = t.length := by rw [Lib.byteCells_length]
              clear HD
              go_wp2_with (first | (go_at_call 93; refine (HSm.out _).mono ?_; rintro e w3 ⟨rfl, rfl⟩) | (go_at_call 100; refine (WriteRune_any w.heap.size w.heap.size (Lib.byteCells t) sm hsb.1 hsb.2 _ hb2' (by rw [hbl2]; omega) how.size).mono ?_; rintro e w4 ⟨rfl, hb3, ho3⟩))
              have h4 := Lib.runeCells_le sm
              rw [Lib.runeCells_length] at h4
              go_roundw
              case rel => exact ⟨q, false, t ++ Lib.encodeRune sm, hn2, by simp; omega, rfl, by go_num, by rw [Lib.byteCells_append, Lib.byteCells_encodeRune]; exact .inr hb3, Below.trans how ho3, by rw [← Hat.out, Hon.out, Hfc.out]; rfl⟩
              case measure => simp [intOf]; omega
          · have e1' : ((R : Int) == 65533) = false := by rw [beq_eq_false_iff_ne]; omega
            obtain rfl : bd = false := by rw [Hbad.out, show (R == 65533) = false from by rw [beq_eq_false_iff_ne]; exact e1, Bool.false_and]
            clear e1
            go_upto_region 12 with (first | (go_at_call 97; refine (HD.out _ ho).mono ?_; rintro e w1 ⟨rfl, ho1⟩))
            have hb2' : Bld w.heap.size w.heap.size (Lib.byteCells t) w1 := Hb.out.old ho1
            have how : Old w w1 := ho.trans ho1
            have hbl2 : (Lib.byteCells t).length = t.length := by rw [Lib.byteCells_length]
            clear HD
            go_wp2_with (first | (go_at_call 93; refine (HSm.out _).mono ?_; rintro e w3 ⟨rfl, rfl⟩) | (go_at_call 100; refine (WriteRune_any w.heap.size w.heap.size (Lib.byteCells t) sm hsb.1 hsb.2 _ hb2' (by rw [hbl2]; omega) how.size).mono ?_; rintro e w4 ⟨rfl, hb3, ho3⟩))
            have h4 := Lib.runeCells_le sm
            rw [Lib.runeCells_length] at h4
            go_roundw
            case rel => exact ⟨q, false, t ++ Lib.encodeRune sm, hn2, by simp; omega, rfl, by go_num, by rw [Lib.byteCells_append, Lib.byteCells_encodeRune]; exact .inr hb3, Below.trans how ho3, by rw [← Hat.out, Hon.out, Hfc.out]; rfl⟩
            case measure => simp [intOf]; omega
        | true =>
          by_cases e1 : R = 65533
          · have e1' : ((R : Int) == 65533) = true := by rw [beq_iff_eq]; omega
            by_cases e2 : n = 1
            · have e2' : ((n : Int) == 1) = true := by rw [beq_iff_eq]; omega
              obtain rfl : bd = true := by rw [Hbad.out, e1, e2]; rfl
              clear e1 e2
              go_upto_region 11 with (first | (go_at_call 97; refine (HD.out _ ho).mono ?_; rintro e w1 ⟨rfl, ho1⟩) | (go_at_call 99; refine (WriteByte_any w.heap.size w.heap.size (Lib.byteCells t) 32 _ (Hb.out.old ho1) (by rw [hbl]; omega) ((ho.trans ho1).size)).mono ?_; rintro e w2 ⟨rfl, hb2, ho2⟩))
              have hb2' : Bld w.heap.size w.heap.size (Lib.byteCells (t ++ [32])) w2 := by rw [Lib.byteCells_append]; exact .inr hb2
              have how : Old w w2 := Below.trans (ho.trans ho1) ho2
              have hbl2 : (Lib.byteCells (t ++ [32])).length = t.length + 1 := by rw [Lib.byteCells_length]; simp
              clear HD
              go_wp2_with (first | (go_at_call 99; refine (WriteByte_any w.heap.size w.heap.size (Lib.byteCells (t ++ [32])) _ _ hb2' (by rw [hbl2]; omega) how.size).mono ?_; rintro e w3 ⟨rfl, hb3, ho3⟩))
              go_roundw
              case rel => exact ⟨q, false, (t ++ [32]) ++ [s.data.toList.getD p 0], hn2, by simp; omega, rfl, by go_num, by rw [Lib.byteCells_append, cells_one, ← Hby.out]; exact .inr hb3, Below.trans how ho3, by rw [← Hat.out, Hon.out, Hfc.out]; rfl⟩
              case measure => simp [intOf]; omega
            · have e2' : ((n : Int) == 1) = false := by rw [beq_eq_false_iff_ne]; omega
              obtain rfl : bd = false := by rw [Hbad.out, show (n == 1) = false from by rw [beq_eq_false_iff_ne]; exact e2, Bool.and_false]
              clear e1 e2
              go_upto_region 11 with (first | (go_at_call 97; refine (HD.out _ ho).mono ?_; rintro e w1 ⟨rfl, ho1⟩) | (go_at_call 99; refine (WriteByte_any w.heap.size w.heap.size (Lib.byteCells t) 32 _ (Hb.out.old ho1) (by rw [hbl]; omega) ((ho.trans ho1).size)).mono ?_; rintro e w2 ⟨rfl, hb2, ho2⟩))
              have hb2' : Bld w.heap.size w.heap.size (Lib.byteCells (t ++ [32])) w2 := by rw [Lib.byteCells_append]; exact .inr hb2
              have how : Old w w2 := Below.trans (ho.trans ho1) ho2
              have hbl2 : (Lib.byteCells (t ++ [32])).length = t.length + 1 := by rw [Lib.byteCells_length]; simp
              clear HD
              go_wp2_with (first | (go_at_call 93; refine (HSm.out _).mono ?_; rintro e w3 ⟨rfl, rfl⟩) | (go_at_call 100; refine (WriteRune_any w.heap.size w.heap.size (Lib.byteCells (t ++ [32])) sm hsb.1 hsb.2 _ hb2' (by rw [hbl2]; omega) how.size).mono ?_; rintro e w4 ⟨rfl, hb3, ho3⟩))
              have h4 := Lib.runeCells_le sm
              rw [Lib.runeCells_length] at h4
              go_roundw
              case rel => exact ⟨q, false, (t ++ [32]) ++ Lib.encodeRune sm, hn2, by simp; omega, rfl, by go_num, by rw [Lib.byteCells_append, Lib.byteCells_encodeRune]; exact .inr hb3, Below.trans how ho3, by rw [← Hat.out, Hon.out, Hfc.out]; rfl⟩
              case measure => simp [intOf]; omega
          · have e1' : ((R : Int) == 65533) = false := by rw [beq_eq_false_iff_ne]; omega
            obtain rfl : bd = false := by rw [Hbad.out, show (R == 65533) = false from by rw [beq_eq_false_iff_ne]; exact e1, Bool.false_and]
            clear e1
            go_upto_region 11 with (first | (go_at_call 97; refine (HD.out _ ho).mono ?_; rintro e w1 ⟨rfl, ho1⟩) | (go_at_call 99; refine (WriteByte_any w.heap.size w.heap.size (Lib.byteCells t) 32 _ (Hb.out.old ho1) (by rw [hbl]; omega) ((ho.trans ho1).size)).mono ?_; rintro e w2 ⟨rfl, hb2, ho2⟩))
            have hb2' : Bld w.heap.size w.heap.size (Lib.byteCells (t ++ [32])) w2 := by rw [Lib.byteCells_append]; exact .inr hb2
            have how : Old w w2 := Below.trans (ho.trans ho1) ho2
            have hbl2 : (Lib.byteCells (t ++ [32])).length = t.length + 1 := by rw [Lib.byteCells_length]; simp
            clear HD
            go_wp2_with (first | (go_at_call 93; refine (HSm.out _).mono ?_; rintro e w3 ⟨rfl, rfl⟩) | (go_at_call 100; refine (WriteRune_any w.heap.size w.heap.size (Lib.byteCells (t ++ [32])) sm hsb.1 hsb.2 _ hb2' (by rw [hbl2]; omega) how.size).mono ?_; rintro e w4 ⟨rfl, hb3, ho3⟩))
            have h4 := Lib.runeCells_le sm
            rw [Lib.runeCells_length] at h4
            go_roundw
            case rel => exact ⟨q, false, (t ++ [32]) ++ Lib.encodeRune sm, hn2, by simp; omega, rfl, by go_num, by rw [Lib.byteCells_append, Lib.byteCells_encodeRune]; exact .inr hb3, Below.trans how ho3, by rw [← Hat.out, Hon.out, Hfc.out]; rfl⟩
            case measure => simp [intOf]; omega
    · obtain rfl : p = s.size := by omega
      have Hend := Lib.hid (foldGo_end (s := s) (p := s.size) hlt wt t)
      have HS := Lib.hid (Tryz.Builder_String_any w.heap.size w.heap.size t wr Hb.out ho.size)
      go_wp2_with fail
      refine HS.out.mono ?_
      rintro e w1 ⟨rfl, hb1⟩
      go_wp2_with fail
      go_ret
      exact ⟨by unfold foldS; rw [← Hat.out, Hend.out]; rfl, Below.trans ho hb1⟩
end Go.Proofs.YtohngjkedhpikaaGreatDoor
/-
  TOC, FAULTS: New, is, gather, All, Told at an error that New made.
-/




namespace Go.Proofs.YtohngjkedhpikaaGreatDoor
open Go.RowKit
attribute [local go_sem] Old.refl Old.alloc Old.drew Old.setCell OldW.old

/-- the cells of an error of ours -/
def errC (code src line col : Int) (word : ByteArray) : Array Value := #[.int .i64 1, .int .i64 code, .int .i64 src, .int .i64 line, .int .i64 col, .string word, .slice none 0 0]
def IsErr (w : World) (v : Value) (code src line col : Int) (word : ByteArray) : Prop :=
  ∃ g, v = .iface 169 (.pointer (some ⟨g, 0, none⟩)) ∧ ∀ j u, (errC code src line col word)[j]? = some u → ∀ W, Old w W → W.cell? ⟨g, j, none⟩ = some u
theorem IsErr.old {w W : World} {v : Value} {code src line col : Int} {word : ByteArray} (h : IsErr w v code src line col word) (o : Old w W) : IsErr W v code src line col word := by
  obtain ⟨g, e, h⟩ := h
  exact ⟨g, e, fun j u hu V oV => h j u hu V (o.trans oV)⟩
set_option maxHeartbeats 800000 in
theorem FNew_any (code src line col : Int) (word : ByteArray) (w : World) (hc : ¬ code = 0) :
    Calls Tryz.prog 81 #[.int .i64 code, .int .i64 src, .int .i64 line, .int .i64 col, .string word] w fun e w' => (∃ v, e = .returned v ∧ IsErr w' v code src line col word) ∧ Old w w' := by
  go_enter Tryz.func81, Tryz.ntmps81
  go_wp2_with fail
  go_ret
  refine ⟨⟨_, rfl, _, rfl, fun j u hu => later ?_⟩, (Old.refl w).alloc _⟩
  simp [go_sem]
  simpa [errC] using hu
set_option maxHeartbeats 800000 in
theorem is_any {w : World} {g : Nat} (h : ∀ W, Old w W → W.cell? ⟨g, 0, none⟩ = some (.int .i64 1)) :
    Calls Tryz.prog 159 #[.pointer (some ⟨g, 0, none⟩)] w fun e w' => e = .returned (.bool true) ∧ w = w' := by
  have h0 := h w (Old.refl w)
  go_enter Tryz.func159, Tryz.ntmps159
  go_wp2_with fail
  go_ret
  exact ⟨rfl, rfl⟩
/-- a fault's cells; no trail -/
structure Flt where
  code : Int
  src : Int
  line : Int
  col : Int
  word : ByteArray
def fltC (f : Flt) : List Value := [.int .i64 f.code, .int .i64 f.src, .int .i64 f.line, .int .i64 f.col, .string f.word, .slice none 0 0]
def encFlt : Enc Flt := ⟨6, fltC, fun _ => rfl, fun x u hu => by
  simp only [fltC, List.mem_cons, List.not_mem_nil, or_false] at hu
  rcases hu with rfl | rfl | rfl | rfl | rfl | rfl <;> rfl⟩
/-- 'x, ok := e.(*T)' at that very pointer type -/
theorem run_typeAssert_ptr {P : Program} {t e : TypeId} (ht : P.underlying t = some (.pointer e)) (v : Value) (xT : TypeId) (w : World) : (Instr.typeAssert (.iface t v) xT t true).run P w = .ok (.tuple #[v, .bool true]) w := by
  simp [Instr.typeAssert, run_underlying ht]
theorem infoFlt : (Tryz.prog.info? 72).map (fun i => (i.zero, i.size, i.bytes)) = some (some (.agg #[.int .i64 0, .int .i64 0, .int .i64 0, .int .i64 0, .string ⟨#[]⟩, .slice none 0 0]), 6, 72) := by kernel_rfl
theorem Recs.oneAt {α : Type} {c : Enc α} (w : World) (E : TypeId) (x : α) {b : Nat} (hb : w.heap.size = b) : Recs c (w.alloc (.cells (c.enc x).toArray E)) (.slice (some ⟨b, 0, none⟩) 1 1) [x] := by
  subst hb; exact Recs.one w E x
set_option maxRecDepth 100000 in
set_option maxHeartbeats 1600000 in
theorem gather_any {w : World} {v : Value} {f : Flt} (h : IsErr w v f.code f.src f.line f.col f.word) :
    Calls Tryz.prog 114 #[v, .agg #[.int .i64 0, .int .i64 0, .slice none 0 0], .slice none 0 0] w fun e w' => (∃ u, e = .returned u ∧ Recs encFlt w' u [f]) ∧ Old w w' := by
  obtain ⟨g, rfl, hc⟩ := h
  have h0 := hc 0 _ rfl
  have h1 := hc 1 _ rfl
  have h2 := hc 2 _ rfl
  have h3 := hc 3 _ rfl
  have h4 := hc 4 _ rfl
  have h5 := hc 5 _ rfl
  have h6 := hc 6 _ rfl
  have hTA := fun w => run_typeAssert_ptr Tryz.underlying169 (.pointer (some ⟨g, 0, none⟩)) 27 w
  have hC : errC f.code f.src f.line f.col f.word = #[.int .i64 1, .int .i64 f.code, .int .i64 f.src, .int .i64 f.line, .int .i64 f.col, .string f.word, .slice none 0 0] := rfl
  clear hc
  simp only [errC, List.getElem_toArray, List.getElem_cons_zero, List.getElem_cons_succ] at h0 h1 h2 h3 h4 h5 h6
  clear hC
  go_enter Tryz.func114, Tryz.ntmps114
  go_wp2_with (first
    | (go_at_call 159; refine (is_any (g := g) (fun V oV => h0 V (((Old.refl w).alloc _).trans oV))).mono ?_; rintro e w1 ⟨rfl, rfl⟩)
    | (at_builtin; (refine wpList_append_recs (w0 := w) (c := encFlt) rfl _ _ 124 rfl 72 Tryz.underlying124 _ infoFlt rfl (by decide) _ [] [f] rfl (OwnS.nil _ _ _ _) _ rfl (Recs.oneAt (c := encFlt) _ 72 f (by simp [go_sem])) (by simp) (by simp) ((((Old.refl w).alloc _).alloc _).alloc _) ?_); intro v' w3 hown3 ho3 _))
  go_ret
  exact ⟨⟨_, rfl, hown3.recs⟩, ho3⟩
theorem frozen_old {w W : World} (h : Old w W) {p : Addr} (hb : p.block < w.heap.size) : W.frozen? p = w.frozen? p := by
  have := h.block p.block hb
  unfold World.frozen?
  rw [this]
set_option maxRecDepth 100000 in
set_option maxHeartbeats 1600000 in
theorem Told_any {w : World} {v : Value} {f : Flt} (h : IsErr w v f.code f.src f.line f.col f.word) :
    Calls Tryz.prog 38 #[v] w fun e w' => e = .returned (.agg (fltC f).toArray) ∧ Old w w' := by
  have hg := fun W (o : Old w W) => gather_any (h.old o)
  obtain ⟨g, rfl, hc⟩ := h
  have hA : ∀ W, Old w W → Calls Tryz.prog 80 #[.iface 169 (.pointer (some ⟨g, 0, none⟩))] W fun e w' => (∃ u, e = .returned u ∧ Recs encFlt w' u [f]) ∧ Old W w' := by
    intro W hW
    have hg' := hg W hW
    clear hg hc
    go_enter Tryz.func80, Tryz.ntmps80
    go_wp2_with fail
    refine hg'.mono ?_
    rintro e w1 ⟨⟨u, rfl, hu⟩, ho⟩
    obtain ⟨a, cap, rfl, _, _⟩ := hu.form
    go_wp2_with fail
    go_ret
    exact ⟨⟨_, rfl, hu⟩, ho⟩
  clear hg hc
  go_enter Tryz.func38, Tryz.ntmps38
  go_wp2_with fail
  refine (hA _ ((Old.refl w).alloc _)).mono ?_
  rintro e w1 ⟨⟨u, rfl, hu⟩, ho⟩
  obtain ⟨a, cap, b, off, rfl, _, _, ha, ht⟩ := hu
  obtain rfl := ha (by simp)
  have t0 : ∀ W, Old w1 W → W.cell? ⟨b, off, none⟩ = some (.int .i64 f.code) := ht 0 _ rfl
  have t1 : ∀ W, Old w1 W → W.cell? ⟨b, off + 1, none⟩ = some (.int .i64 f.src) := ht 1 _ rfl
  have t2 : ∀ W, Old w1 W → W.cell? ⟨b, off + 2, none⟩ = some (.int .i64 f.line) := ht 2 _ rfl
  have t3 : ∀ W, Old w1 W → W.cell? ⟨b, off + 3, none⟩ = some (.int .i64 f.col) := ht 3 _ rfl
  have t4 : ∀ W, Old w1 W → W.cell? ⟨b, off + 4, none⟩ = some (.string f.word) := ht 4 _ rfl
  have t5 : ∀ W, Old w1 W → W.cell? ⟨b, off + 5, none⟩ = some (.slice none 0 0) := ht 5 _ rfl
  have k0 : w.heap.size < w1.heap.size := by have := ho.size; simp [go_sem] at this; omega
  have c0 := ho.cell (p := ⟨w.heap.size, 0, none⟩) (by simp [go_sem]; rfl)
  have c1 := ho.cell (p := ⟨w.heap.size, 1, none⟩) (by simp [go_sem]; rfl)
  have c2 := ho.cell (p := ⟨w.heap.size, 2, none⟩) (by simp [go_sem]; rfl)
  have c3 := ho.cell (p := ⟨w.heap.size, 3, none⟩) (by simp [go_sem]; rfl)
  have c4 := ho.cell (p := ⟨w.heap.size, 4, none⟩) (by simp [go_sem]; rfl)
  have c5 := ho.cell (p := ⟨w.heap.size, 5, none⟩) (by simp [go_sem]; rfl)
  have hf : ∀ j, w1.frozen? ⟨w.heap.size, j, none⟩ = false := fun j => by
    rw [frozen_old ho (by simp [go_sem])]
    simp [go_sem]
  clear ht ha hA
  go_wp2_with fail
  (try simp only [Exit.inBlock, Exit.then])
  refine bodyPost_ret (v := .agg (fltC f).toArray) (by simp [results, Tryz.results38, go_sem, c0, c1, c2, c3, c4, c5, fltC]) rfl ⟨rfl, ?_⟩
  have ho' := (((Old.refl w).alloc _).trans ho)
  exact (((((ho'.setCell (Nat.le_refl _) _).setCell (Nat.le_refl _) _).setCell (Nat.le_refl _) _).setCell (Nat.le_refl _) _).setCell (Nat.le_refl _) _).setCell (Nat.le_refl _) _
end Go.Proofs.YtohngjkedhpikaaGreatDoor
