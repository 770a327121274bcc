/-
  TEXT, WALKS A: control characters, bytes that begin none, plain texts.
-/
import Derived.Test.YtpifkinlaicliaaGreatDoorZUtf8
import Derived.Test.YtpifkinlaicliaaGreatDoorZBase
namespace Go.Proofs.YtpifkinlaicliaaGreatDoor
open Go.RowKit
attribute [local go_sem] Old.refl Old.alloc Old.drew Old.setCell OldW.old

/-- the two tables of package utf8 lie in w and later -/
def Tabs (w : World) : Prop := ∀ W, Old w W → Lib.Utf8Tabs 1 2 W
theorem Tabs.old {w W : World} (h : Tabs w) (o : Old w W) : Tabs W := fun V k => h V (o.trans k)
theorem nat_beq (a b : Nat) : ((a : Int) == (b : Int)) = (a == b) := by rw [Bool.eq_iff_iff, beq_iff_eq, beq_iff_eq]; omega
theorem control_any (r : Int) (w : World) :
    Calls Tryz.prog 59 #[.int .i32 r] w fun e w' => e = .returned (.bool (ctlR r)) ∧ w = w' := by
  by_cases h1 : r < 32
  · have hd : decide (r < 32) = true := by simpa using h1
    have Hv := Lib.hid (show ctlR r = true from by simp [ctlR, h1])
    clear h1
    go_enter Tryz.func59, Tryz.ntmps59
    go_wp2
    all_goals first
      | (exfalso; omega)
      | (go_ret; exact ⟨ret_bool Hv.out.symm, rfl⟩)
  · have hd : decide (r < 32) = false := by simpa using h1
    by_cases h2 : 127 ≤ r
    · have hd2 : decide (127 ≤ r) = true := by simpa using h2
      have Hv := Lib.hid (show ctlR r = decide (r ≤ 159) from by simp [ctlR, hd, hd2])
      clear h1 h2
      go_enter Tryz.func59, Tryz.ntmps59
      go_wp2
      all_goals first
        | (exfalso; omega)
        | (go_ret; exact ⟨ret_bool Hv.out.symm, rfl⟩)
    · have hd2 : decide (127 ≤ r) = false := by simpa using h2
      have Hv := Lib.hid (show ctlR r = false from by simp [ctlR, hd, hd2])
      clear h1 h2
      go_enter Tryz.func59, Tryz.ntmps59
      go_wp2
      all_goals first
        | (exfalso; omega)
        | (go_ret; exact ⟨ret_bool Hv.out.symm, rfl⟩)
theorem decode_any (s : ByteArray) (w : World) (hT : Tabs w) (p : Nat) (hp : p < s.size) :
    Calls Tryz.prog 61 #[.string (s.extract p s.size)] w fun e w' => e = .returned (.tuple #[.int .i32 (chR s.data.toList p), .int .i64 (chN s.data.toList p)]) ∧ Old w w' := by
  refine (Tryz.utf8_DecodeRuneInString _ w (hT w (Old.refl w))).mono ?_
  rintro e w' ⟨rfl, h⟩
  rw [decodeGo_at s hp]
  exact ⟨rfl, h⟩
set_option maxHeartbeats 400000 in
theorem bad_any (s : ByteArray) (p : Nat) (w : World) (hT : Tabs w) (hp : p < s.size) :
    Calls Tryz.prog 60 #[.string s, .int .i64 p] w fun e w' => e = .returned (.bool (badC s.data.toList p)) ∧ Old w w' := by
  have Hc := Lib.hid (decode_any s w hT p hp)
  have Hb := Lib.hid (show badC s.data.toList p = (chR s.data.toList p == 65533 && chN s.data.toList p == 1) from rfl)
  by_cases h1 : chR s.data.toList p = 65533
  · have hb : ((chR s.data.toList p : Int) == 65533) = true := by rw [beq_iff_eq]; omega
    have hb' : (chR s.data.toList p == 65533) = true := by rw [beq_iff_eq]; omega
    rw [hb', Bool.true_and] at Hb
    clear h1 hb'
    go_enter Tryz.func60, Tryz.ntmps60
    go_wp2_with (go_at_call 61; refine Hc.out.mono ?_; rintro r w1 ⟨rfl, ho⟩)
    go_ret
    exact ⟨ret_bool (by rw [Hb.out]; exact nat_beq _ 1), ho⟩
  · have hb : ((chR s.data.toList p : Int) == 65533) = false := by rw [beq_eq_false_iff_ne]; omega
    have hb' : (chR s.data.toList p == 65533) = false := by rw [beq_eq_false_iff_ne]; omega
    rw [hb', Bool.false_and] at Hb
    clear h1 hb'
    go_enter Tryz.func60, Tryz.ntmps60
    go_wp2_with (go_at_call 61; refine Hc.out.mono ?_; rintro r w1 ⟨rfl, ho⟩)
    go_ret
    exact ⟨ret_bool Hb.out.symm, ho⟩
theorem ret_ib {a c : Int} {b d : Bool} (h : a = c) (k : b = d) : Ending.returned (.tuple #[.int .i64 a, .bool b]) = .returned (.tuple #[.int .i64 c, .bool d]) := by rw [h, k]
set_option maxHeartbeats 800000 in
theorem Plain_any (s : ByteArray) (w : World) (hT : Tabs w) :
    Calls Tryz.prog 32 #[.string s] w fun e w' => e = .returned (.tuple #[.int .i64 (plainAt s.data.toList 0).1, .bool (plainAt s.data.toList 0).2]) ∧ Old w w' := by
  go_enter Tryz.func32, Tryz.ntmps32
  go_wp2
  go_loopw [] (fun wr => ∃ (pos : Nat), pos ≤ s.size ∧ wr.heap[w.heap.size]? = some (.stringIter s pos) ∧ Old w wr ∧ plainAt s.data.toList pos = plainAt s.data.toList 0) (fun wr => s.size - wr.iterPos w.heap.size)
  case atStart => exact ⟨0, Nat.zero_le _, by simpa using World.iter_heap w s 0, (Old.refl w).alloc _, rfl⟩
  case round =>
    obtain ⟨pos, hps, hit, ho, hat⟩ := hrel
    have Hat := Lib.hid hat
    clear hat
    by_cases hp : pos < s.size
    · have hnx : ∀ ty, (Instr.next (.pointer (some ⟨w.heap.size, 0, none⟩)) true ty).run Tryz.prog wr = _ := fun ty => next_at wr w.heap.size s pos ty hit hp
      have hn1 := chN_pos s.data.toList pos
      have hn2 := chN_le (l := s.data.toList) (p := pos) (by rw [str_len]; exact hp)
      rw [str_len] at hn2
      have hit2 := Lib.iterAt_heap wr w.heap.size s pos (pos + chN s.data.toList pos) hit
      have ho2 := ho.iterAt (Nat.le_refl _) s (pos + chN s.data.toList pos)
      have hT2 := hT.old ho2
      generalize wr.iterAt w.heap.size s (pos + chN s.data.toList pos) = w2 at *
      by_cases hc : ctlR (chR s.data.toList pos) = true
      · have Hno := Lib.hid (plainAt_no (l := s.data.toList) (p := pos) (by rw [str_len]; exact hp) (by rw [hc]; rfl))
        have Cc := control_any (chR s.data.toList pos) w2
        rw [hc] at Cc
        have Hc := Lib.hid Cc
        clear hc Cc
        go_wp2_with (go_at_call 59; refine Hc.out.mono ?_; rintro r w3 ⟨rfl, rfl⟩)
        go_ret2
        exact ⟨ret_ib (by rw [← Hat.out, Hno.out]) (by rw [← Hat.out, Hno.out]), ho2⟩
      · have hc := Bool.eq_false_iff.2 hc
        have Cc := control_any (chR s.data.toList pos) w2
        rw [hc] at Cc
        have Hc := Lib.hid Cc
        by_cases h5 : chR s.data.toList pos = 65533
        · have hb5 : ((chR s.data.toList pos : Int) == 65533) = true := by rw [beq_iff_eq]; omega
          have Cb := bad_any s pos w2 hT2 hp
          by_cases hb : badC s.data.toList pos = true
          · have Hno := Lib.hid (plainAt_no (l := s.data.toList) (p := pos) (by rw [str_len]; exact hp) (by rw [hb, Bool.or_true]))
            rw [hb] at Cb
            have Hb := Lib.hid Cb
            clear hc Cc Cb hb h5
            go_wp2_with (first | (go_at_call 59; refine Hc.out.mono ?_; rintro r w3 ⟨rfl, rfl⟩) | (go_at_call 60; refine Hb.out.mono ?_; rintro r w3 ⟨rfl, ho3⟩))
            go_ret2
            exact ⟨ret_ib (by rw [← Hat.out, Hno.out]) (by rw [← Hat.out, Hno.out]), ho2.trans ho3⟩
          · have hb := Bool.eq_false_iff.2 hb
            have Hon := Lib.hid (plainAt_on (l := s.data.toList) (p := pos) (by rw [str_len]; exact hp) (by rw [hc, hb]; rfl))
            rw [hb] at Cb
            have Hb := Lib.hid Cb
            clear hc Cc Cb hb h5
            go_wp2_with (first | (go_at_call 59; refine Hc.out.mono ?_; rintro r w3 ⟨rfl, rfl⟩) | (go_at_call 60; refine Hb.out.mono ?_; rintro r w3 ⟨rfl, ho3⟩))
            have hit3 := ho3.heap hit2
            go_roundw
            case rel => exact ⟨pos + chN s.data.toList pos, by omega, hit3, ho2.trans ho3, by rw [← Hon.out]; exact Hat.out⟩
            case measure => simp only [World.iterPos, hit3, hit]; omega
        · have hb5 : ((chR s.data.toList pos : Int) == 65533) = false := by rw [beq_eq_false_iff_ne]; omega
          have Hon := Lib.hid (plainAt_on (l := s.data.toList) (p := pos) (by rw [str_len]; exact hp) (by rw [hc, show badC s.data.toList pos = false from by unfold badC; rw [show (chR s.data.toList pos == 65533) = false from by rw [beq_eq_false_iff_ne]; exact h5]; rfl]; rfl))
          clear hc Cc h5
          go_wp2_with (go_at_call 59; refine Hc.out.mono ?_; rintro r w3 ⟨rfl, rfl⟩)
          go_roundw
          case rel => exact ⟨pos + chN s.data.toList pos, by omega, hit2, ho2, by rw [← Hon.out]; exact Hat.out⟩
          case measure => simp only [World.iterPos, hit2, hit]; omega
    · have Hend := Lib.hid (plainAt_end (l := s.data.toList) (p := pos) (by rw [str_len]; exact hp))
      have hnx : ∀ ty, (Instr.next (.pointer (some ⟨w.heap.size, 0, none⟩)) true ty).run Tryz.prog wr = _ := fun ty => Lib.run_next_end_at wr w.heap.size s pos ty hit hp
      go_wp2_with fail
      go_ret2
      exact ⟨ret_ib (by rw [← Hat.out, Hend.out]; rfl) (by rw [← Hat.out, Hend.out]), ho⟩
end Go.Proofs.YtpifkinlaicliaaGreatDoor
/-
  A REGION IN THE TEXT's ORDER BY THE QUIET WALK (guards over calls that only read): as Derived/Deep/Quiet.lean's theorem for regions that draw.
-/

namespace Go.Proofs.YtpifkinlaicliaaGreatDoor
open Go.RowKit
theorem wpList_of_quiet {P : Program} {ops : Array Oper} {C : World → Prop} {K : Act → Prop} {Q : Exit → Act → World → Prop} (hQ : ∀ a w, C w → K a → Q .normal a w) :
    ∀ (l : List Oper) (a : Act) (w : World), C w → wpQuiet P ops C K l a → wpList P ops Q l a w
  | [], a, w, hw, h => hQ a w hw h
  | o :: rest, a, w, hw, h => by
    unfold wpQuiet at h
    unfold wpList
    split
    · rename_i hwant
      rw [if_pos hwant] at h
      exact .inl (Oper.wp_of_quiet hw (fun a' w' hw' h' => wpList_of_quiet hQ rest a' w' hw' h') h)
    · rename_i hwant
      rw [if_neg hwant] at h
      exact wpList_of_quiet hQ rest _ w hw h
/-- the very world -/
structure IsW (w : World) where
  w' : World
  same : w = w'
instance (w : World) : Nonempty (IsW w) := ⟨⟨w, rfl⟩⟩
/-- a region in the text's order, of operations and calls that leave the world as it was -/
theorem wp_region_calm {P : Program} {id : Nat} {Q : Exit → Act → World → Prop} {a : Act} {w : World} {l : List Oper}
    (h : wpQuiet P l.toArray (fun w' => ∃ W : IsW w, w' = W.w') (fun a' => Q .normal a' w) l a) : (Code.region id l.toArray false).wp P Q a w :=
  wp_region_lit (wpList_of_quiet (C := fun w' => ∃ W : IsW w, w' = W.w') (K := fun a' => Q .normal a' w) (fun a' w' hw h' => by obtain ⟨W, rfl⟩ := hw; rw [← W.same]; exact h') l a w ⟨⟨w, rfl⟩, rfl⟩ h)
theorem Calls.calm {P : Program} {f : FuncId} {args : Array Value} {w : World} {W : IsW w} {v : Value} (h : Calls P f args W.w' fun e w' => e = .returned v ∧ W.w' = w') :
    Calls P f args W.w' fun e w'' => e = .returned v ∧ ∃ V : IsW w, w'' = V.w' := h.mono fun _ _ ⟨a, b⟩ => ⟨a, ⟨_, W.same.trans b⟩, rfl⟩
/-- a region in the text's order, of operations that read and calls that only add to memory -/
theorem wp_region_mild {P : Program} {id : Nat} {Q : Exit → Act → World → Prop} {a : Act} {w0 w : World} {l : List Oper} (h0 : Old w0 w)
    (h : wpQuiet P l.toArray (fun w' => ∃ W : OldW w0, w' = W.w') (fun a' => ∀ W : OldW w0, Q .normal a' W.w') l a) : (Code.region id l.toArray false).wp P Q a w :=
  wp_region_lit (wpList_of_quiet (C := fun w' => ∃ W : OldW w0, w' = W.w') (K := fun a' => ∀ W : OldW w0, Q .normal a' W.w') (fun a' w' hw h' => by obtain ⟨W, rfl⟩ := hw; exact h' W) l a w ⟨⟨w, h0⟩, rfl⟩ h)
end Go.Proofs.YtpifkinlaicliaaGreatDoor
