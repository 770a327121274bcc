/-
  TEXT, FOLD, WHATEVER THE SIZE: folding makes no text longer.
-/
import Derived.Test.YtpifkinlaicliaaGreatDoorZTextFold
import Derived.Test.YtpifkinlaicliaaGreatDoorZTextCompare3
import Derived.Test.YtpifkinlaicliaaGreatDoorZTextRefF
import Derived.Lib.QuoteLoop
import Derived.Laws.Cover4
namespace Go.Proofs.YtpifkinlaicliaaGreatDoor
open Go.RowKit
attribute [local go_sem] Old.refl Old.alloc Old.drew Old.setCell OldW.old

theorem small_len (r : Int) (h0 : 0 ≤ r) (h1 : r ≤ 1114111) : (Lib.encodeRune (smallC r)).length = (Lib.encodeRune r).length := by
  have e : ∀ r, (Lib.encodeRune r).length = (Lib.encodeRuneZ r).length := fun r => by simp [Lib.encodeRune]
  rw [e, e]
  unfold smallC
  split
  · rename_i h
    rcases h with h | h | h | h
    · rw [Lib.encodeRuneZ_one (by omega) (by omega), Lib.encodeRuneZ_one (by omega) (by omega)]; rfl
    · rw [Lib.encodeRuneZ_two (by omega) (by omega), Lib.encodeRuneZ_two (by omega) (by omega)]; rfl
    · rw [Lib.encodeRuneZ_two (by omega) (by omega), Lib.encodeRuneZ_two (by omega) (by omega)]; rfl
    · rw [Lib.encodeRuneZ_two (by omega) (by omega), Lib.encodeRuneZ_two (by omega) (by omega)]; rfl
  · split
    · rw [Lib.encodeRuneZ_two (by omega) (by omega), Lib.encodeRuneZ_two (by omega) (by omega)]; rfl
    · rfl
theorem foldC_eq {s : ByteArray} {p : Nat} (h : p < s.size) (hb : badC s.data.toList p = false) : (Lib.encodeRune (smallC (chR s.data.toList p))).length = chN s.data.toList p := by
  have hl : p < s.data.toList.length := by rw [str_len]; exact h
  have hne : s.data.toList.drop p ≠ [] := by
    intro e
    have := congrArg List.length e
    rw [List.length_drop] at this
    simp at this; rw [str_len] at hl; omega
  have h2 := chN_le hl
  rw [small_len _ (by omega) (by have := chR_le s.data.toList p; omega)]
  have he := Lib.encode_decode (s.data.toList.drop p) hne (by
    intro k
    have : badC s.data.toList p = true := by
      unfold badC chR chN
      rw [k.1, k.2]; rfl
    rw [this] at hb; cases hb)
  have := congrArg List.length he
  rw [List.length_take, List.length_drop] at this
  unfold chR chN at *
  omega
set_option maxRecDepth 100000 in
set_option maxHeartbeats 6400000 in
theorem Fold_big (s : ByteArray) (w : World) (hT : Tabs w) (hs : s.size ≤ 140737488351232) :
    Calls Tryz.prog 33 #[.string s] w fun e w' => e = .returned (.string (foldS s)) ∧ Old w w' := by
  go_enter Tryz.func33, Tryz.ntmps33
  go_wp2_with fail
  have hfresh : Bld w.heap.size w.heap.size [] (w.alloc (.cells #[.pointer none, .slice none 0 0] 112)) := Lib.fresh_isBuilder _ _ w
  have ho0 : Old w (w.alloc (.cells #[.pointer none, .slice none 0 0] 112)) := (Old.refl w).alloc _
  go_loopw [4, 5] (fun x i wr => ∃ (p : Nat) (wt : Bool) (t : List UInt8), p ≤ s.size ∧ t.length + wt.toNat ≤ p ∧ x = .bool wt ∧ i = .int .i64 p ∧ Bld w.heap.size w.heap.size (Lib.byteCells t) wr ∧ Old w wr ∧ foldGo s p wt t = foldB s) (fun _ i _ => s.size - (intOf i).toNat)
  case atStart => exact ⟨0, false, [], Nat.zero_le _, Nat.le_refl _, rfl, rfl, hfresh, ho0, rfl⟩
  case round =>
    obtain ⟨p, wt, t, hp, htl, rfl, rfl, hbld, ho, hat⟩ := hrel
    have Hat := Lib.hid hat
    have Hb := Lib.hid hbld
    clear hat hbld hfresh ho0
    by_cases hlt : p < s.size
    · have hlt' : (p : Int) < s.size := by omega
      have hn1 := chN_pos s.data.toList p
      have hn2 := chN_le (l := s.data.toList) (p := p) (by rw [str_len]; exact hlt)
      rw [str_len] at hn2
      have hr0 := chR_le s.data.toList p
      have HD := Lib.hid (fun V (o : Old w V) => decode_any s V (hT.old o) p hlt)
      have hbl : (Lib.byteCells t).length = t.length := Lib.byteCells_length t
      by_cases h32 : chR s.data.toList p = 32
      · have Hon := Lib.hid (foldGo_sp hlt h32 wt t)
        rw [h32] at HD
        have HL := Lib.hid (fun V (o : Old wr V) => Tryz.Builder_Len w.heap.size w.heap.size (Lib.byteCells t) V (Hb.out.old o))
        rw [hbl] at HL
        clear h32 hbl
        generalize chN s.data.toList p = n at *
        go_wp2_with (first | (go_at_call 61; refine (HD.out _ ho).mono ?_; rintro e w1 ⟨rfl, ho1⟩) | (go_at_call 62; refine (HL.out _ ho1).mono ?_; rintro e w2 ⟨rfl, rfl⟩))
        go_roundw
        case rel => exact ⟨p + 1, decide (0 < t.length), t, by omega, by have h1 := Bool.toNat_le (decide (0 < t.length)); omega, rfl, by go_num, Hb.out.old ho1, ho.trans ho1, by rw [← Hon.out]; exact Hat.out⟩
        case measure => simp [intOf]; omega
      · have Hon := Lib.hid (foldGo_on hlt h32 wt t)
        have h32' : ((chR s.data.toList p : Int) == 32) = false := by rw [beq_eq_false_iff_ne]; omega
        have Hbad := Lib.hid (show badC s.data.toList p = (chR s.data.toList p == 65533 && chN s.data.toList p == 1) from rfl)
        have Hfc := Lib.hid (show foldC s p = if badC s.data.toList p then [s.data.toList.getD p 0] else Lib.encodeRune (smallC (chR s.data.toList p)) from rfl)
        have Hby := Lib.hid (byte_get s hlt)
        have HSm := Lib.hid (fun V => Small_any (chR s.data.toList p) V (by omega))
        have hsb := smallC_bounds (r := (chR s.data.toList p : Int)) (by omega)
        have hel : badC s.data.toList p = false → (Lib.encodeRune (smallC (chR s.data.toList p))).length ≤ chN s.data.toList p := fun hb => Nat.le_of_eq (foldC_eq hlt hb)
        clear h32
        generalize chR s.data.toList p = R at *
        generalize chN s.data.toList p = n at *
        generalize badC s.data.toList p = bd at *
        generalize smallC (R : Int) = sm at *
        generalize foldC s p = fc at *
        have hq : (p : Int) + n = ((p + n : Nat) : Int) := by omega
        have hpq : p < p + n := by omega
        generalize p + n = q at *
        cases wt with
        | false =>
          rw [show Bool.toNat false = 0 from rfl, Nat.add_zero] at htl
          by_cases e1 : R = 65533
          · have e1' : ((R : Int) == 65533) = true := by rw [beq_iff_eq]; omega
            by_cases e2 : n = 1
            · have e2' : ((n : Int) == 1) = true := by rw [beq_iff_eq]; omega
              obtain rfl : bd = true := by rw [Hbad.out, e1, e2]; rfl
              clear hel
              clear e1 e2
              go_upto_region 12 with (first | (go_at_call 61; refine (HD.out _ ho).mono ?_; rintro e w1 ⟨rfl, ho1⟩))
              have hb2' : Bld w.heap.size w.heap.size (Lib.byteCells t) w1 := Hb.out.old ho1
              have how : Old w w1 := ho.trans ho1
              have hbl2 : (Lib.byteCells t).length = t.length := by rw [Lib.byteCells_length]
              clear HD
              go_wp2_with (first | (go_at_call 63; refine (WriteByte_any w.heap.size w.heap.size (Lib.byteCells t) _ _ hb2' (by rw [hbl2]; omega) how.size).mono ?_; rintro e w3 ⟨rfl, hb3, ho3⟩))
              go_roundw
              case rel => exact ⟨q, false, t ++ [s.data.toList.getD p 0], hn2, by simp; omega, rfl, by go_num, by rw [Lib.byteCells_append, cells_one, ← Hby.out]; exact .inr hb3, Below.trans how ho3, by rw [← Hat.out, Hon.out, Hfc.out]; rfl⟩
              case measure => simp [intOf]; omega
            · have e2' : ((n : Int) == 1) = false := by rw [beq_eq_false_iff_ne]; omega
              obtain rfl : bd = false := by rw [Hbad.out, show (n == 1) = false from by rw [beq_eq_false_iff_ne]; exact e2, Bool.and_false]
              have hel2 := hel rfl
              clear hel
              clear e1 e2
              go_upto_region 12 with (first | (go_at_call 61; refine (HD.out _ ho).mono ?_; rintro e w1 ⟨rfl, ho1⟩))
              have hb2' : Bld w.heap.size w.heap.size (Lib.byteCells t) w1 := Hb.out.old ho1
              have how : Old w w1 := ho.trans ho1
              have hbl2 : (Lib.byteCells t).length = t.length := by rw [Lib.byteCells_length]
              clear HD
              go_wp2_with (first | (go_at_call 50; refine (HSm.out _).mono ?_; rintro e w3 ⟨rfl, rfl⟩) | (go_at_call 64; refine (WriteRune_any w.heap.size w.heap.size (Lib.byteCells t) sm hsb.1 hsb.2 _ hb2' (by rw [hbl2]; omega) how.size).mono ?_; rintro e w4 ⟨rfl, hb3, ho3⟩))
              have h4 := Lib.runeCells_le sm
              rw [Lib.runeCells_length] at h4
              go_roundw
              case rel => exact ⟨q, false, t ++ Lib.encodeRune sm, hn2, by simp; omega, rfl, by go_num, by rw [Lib.byteCells_append, Lib.byteCells_encodeRune]; exact .inr hb3, Below.trans how ho3, by rw [← Hat.out, Hon.out, Hfc.out]; rfl⟩
              case measure => simp [intOf]; omega
          · have e1' : ((R : Int) == 65533) = false := by rw [beq_eq_false_iff_ne]; omega
            obtain rfl : bd = false := by rw [Hbad.out, show (R == 65533) = false from by rw [beq_eq_false_iff_ne]; exact e1, Bool.false_and]
            have hel2 := hel rfl
            clear hel
            clear e1
            go_upto_region 12 with (first | (go_at_call 61; refine (HD.out _ ho).mono ?_; rintro e w1 ⟨rfl, ho1⟩))
            have hb2' : Bld w.heap.size w.heap.size (Lib.byteCells t) w1 := Hb.out.old ho1
            have how : Old w w1 := ho.trans ho1
            have hbl2 : (Lib.byteCells t).length = t.length := by rw [Lib.byteCells_length]
            clear HD
            go_wp2_with (first | (go_at_call 50; refine (HSm.out _).mono ?_; rintro e w3 ⟨rfl, rfl⟩) | (go_at_call 64; refine (WriteRune_any w.heap.size w.heap.size (Lib.byteCells t) sm hsb.1 hsb.2 _ hb2' (by rw [hbl2]; omega) how.size).mono ?_; rintro e w4 ⟨rfl, hb3, ho3⟩))
            have h4 := Lib.runeCells_le sm
            rw [Lib.runeCells_length] at h4
            go_roundw
            case rel => exact ⟨q, false, t ++ Lib.encodeRune sm, hn2, by simp; omega, rfl, by go_num, by rw [Lib.byteCells_append, Lib.byteCells_encodeRune]; exact .inr hb3, Below.trans how ho3, by rw [← Hat.out, Hon.out, Hfc.out]; rfl⟩
            case measure => simp [intOf]; omega
        | true =>
          rw [show Bool.toNat true = 1 from rfl] at htl
          by_cases e1 : R = 65533
          · have e1' : ((R : Int) == 65533) = true := by rw [beq_iff_eq]; omega
            by_cases e2 : n = 1
            · have e2' : ((n : Int) == 1) = true := by rw [beq_iff_eq]; omega
              obtain rfl : bd = true := by rw [Hbad.out, e1, e2]; rfl
              clear hel
              clear e1 e2
              go_upto_region 11 with (first | (go_at_call 61; refine (HD.out _ ho).mono ?_; rintro e w1 ⟨rfl, ho1⟩) | (go_at_call 63; refine (WriteByte_any w.heap.size w.heap.size (Lib.byteCells t) 32 _ (Hb.out.old ho1) (by rw [hbl]; omega) ((ho.trans ho1).size)).mono ?_; rintro e w2 ⟨rfl, hb2, ho2⟩))
              have hb2' : Bld w.heap.size w.heap.size (Lib.byteCells (t ++ [32])) w2 := by rw [Lib.byteCells_append]; exact .inr hb2
              have how : Old w w2 := Below.trans (ho.trans ho1) ho2
              have hbl2 : (Lib.byteCells (t ++ [32])).length = t.length + 1 := by rw [Lib.byteCells_length]; simp
              clear HD
              go_wp2_with (first | (go_at_call 63; refine (WriteByte_any w.heap.size w.heap.size (Lib.byteCells (t ++ [32])) _ _ hb2' (by rw [hbl2]; omega) how.size).mono ?_; rintro e w3 ⟨rfl, hb3, ho3⟩))
              go_roundw
              case rel => exact ⟨q, false, (t ++ [32]) ++ [s.data.toList.getD p 0], hn2, by simp; omega, rfl, by go_num, by rw [Lib.byteCells_append, cells_one, ← Hby.out]; exact .inr hb3, Below.trans how ho3, by rw [← Hat.out, Hon.out, Hfc.out]; rfl⟩
              case measure => simp [intOf]; omega
            · have e2' : ((n : Int) == 1) = false := by rw [beq_eq_false_iff_ne]; omega
              obtain rfl : bd = false := by rw [Hbad.out, show (n == 1) = false from by rw [beq_eq_false_iff_ne]; exact e2, Bool.and_false]
              have hel2 := hel rfl
              clear hel
              clear e1 e2
              go_upto_region 11 with (first | (go_at_call 61; refine (HD.out _ ho).mono ?_; rintro e w1 ⟨rfl, ho1⟩) | (go_at_call 63; refine (WriteByte_any w.heap.size w.heap.size (Lib.byteCells t) 32 _ (Hb.out.old ho1) (by rw [hbl]; omega) ((ho.trans ho1).size)).mono ?_; rintro e w2 ⟨rfl, hb2, ho2⟩))
              have hb2' : Bld w.heap.size w.heap.size (Lib.byteCells (t ++ [32])) w2 := by rw [Lib.byteCells_append]; exact .inr hb2
              have how : Old w w2 := Below.trans (ho.trans ho1) ho2
              have hbl2 : (Lib.byteCells (t ++ [32])).length = t.length + 1 := by rw [Lib.byteCells_length]; simp
              clear HD
              go_wp2_with (first | (go_at_call 50; refine (HSm.out _).mono ?_; rintro e w3 ⟨rfl, rfl⟩) | (go_at_call 64; refine (WriteRune_any w.heap.size w.heap.size (Lib.byteCells (t ++ [32])) sm hsb.1 hsb.2 _ hb2' (by rw [hbl2]; omega) how.size).mono ?_; rintro e w4 ⟨rfl, hb3, ho3⟩))
              have h4 := Lib.runeCells_le sm
              rw [Lib.runeCells_length] at h4
              go_roundw
              case rel => exact ⟨q, false, (t ++ [32]) ++ Lib.encodeRune sm, hn2, by simp; omega, rfl, by go_num, by rw [Lib.byteCells_append, Lib.byteCells_encodeRune]; exact .inr hb3, Below.trans how ho3, by rw [← Hat.out, Hon.out, Hfc.out]; rfl⟩
              case measure => simp [intOf]; omega
          · have e1' : ((R : Int) == 65533) = false := by rw [beq_eq_false_iff_ne]; omega
            obtain rfl : bd = false := by rw [Hbad.out, show (R == 65533) = false from by rw [beq_eq_false_iff_ne]; exact e1, Bool.false_and]
            have hel2 := hel rfl
            clear hel
            clear e1
            go_upto_region 11 with (first | (go_at_call 61; refine (HD.out _ ho).mono ?_; rintro e w1 ⟨rfl, ho1⟩) | (go_at_call 63; refine (WriteByte_any w.heap.size w.heap.size (Lib.byteCells t) 32 _ (Hb.out.old ho1) (by rw [hbl]; omega) ((ho.trans ho1).size)).mono ?_; rintro e w2 ⟨rfl, hb2, ho2⟩))
            have hb2' : Bld w.heap.size w.heap.size (Lib.byteCells (t ++ [32])) w2 := by rw [Lib.byteCells_append]; exact .inr hb2
            have how : Old w w2 := Below.trans (ho.trans ho1) ho2
            have hbl2 : (Lib.byteCells (t ++ [32])).length = t.length + 1 := by rw [Lib.byteCells_length]; simp
            clear HD
            go_wp2_with (first | (go_at_call 50; refine (HSm.out _).mono ?_; rintro e w3 ⟨rfl, rfl⟩) | (go_at_call 64; refine (WriteRune_any w.heap.size w.heap.size (Lib.byteCells (t ++ [32])) sm hsb.1 hsb.2 _ hb2' (by rw [hbl2]; omega) how.size).mono ?_; rintro e w4 ⟨rfl, hb3, ho3⟩))
            have h4 := Lib.runeCells_le sm
            rw [Lib.runeCells_length] at h4
            go_roundw
            case rel => exact ⟨q, false, (t ++ [32]) ++ Lib.encodeRune sm, hn2, by simp; omega, rfl, by go_num, by rw [Lib.byteCells_append, Lib.byteCells_encodeRune]; exact .inr hb3, Below.trans how ho3, by rw [← Hat.out, Hon.out, Hfc.out]; rfl⟩
            case measure => simp [intOf]; omega
    · obtain rfl : p = s.size := by omega
      have Hend := Lib.hid (foldGo_end (s := s) (p := s.size) hlt wt t)
      have HS := Lib.hid (Tryz.Builder_String_any w.heap.size w.heap.size t wr Hb.out ho.size)
      go_wp2_with fail
      refine HS.out.mono ?_
      rintro e w1 ⟨rfl, hb1⟩
      go_wp2_with fail
      go_ret
      exact ⟨by unfold foldS; rw [← Hat.out, Hend.out]; rfl, Below.trans ho hb1⟩
end Go.Proofs.YtpifkinlaicliaaGreatDoor
