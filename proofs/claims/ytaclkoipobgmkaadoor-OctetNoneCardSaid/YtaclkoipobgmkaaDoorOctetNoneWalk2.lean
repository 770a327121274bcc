/-
  OCTET NONE: no cursor at all; the row's walk.
-/
import Derived.Test.YtaclkoipobgmkaaDoorOctetNoneWalk
namespace Go.Proofs.YtaclkoipobgmkaaDoor
open Go.RowKit
attribute [local go_sem] Old.refl Old.alloc Old.drew Old.setCell OldW.old

theorem Err_nil (w : World) : Calls Tryd.prog 13 #[.pointer none] w fun r w' => r = .returned (.int .i64 0) ∧ w = w' := by
  go_enter Tryd.func13, Tryd.ntmps13
  go_wp2
  go_ret
  exact ⟨rfl, rfl⟩
theorem At_nil (w : World) : Calls Tryd.prog 16 #[.pointer none] w fun r w' => r = .returned (.int .i64 0) ∧ w = w' := by
  go_enter Tryd.func16, Tryd.ntmps16
  go_wp2
  go_ret
  exact ⟨rfl, rfl⟩
theorem Left_nil (w : World) : Calls Tryd.prog 36 #[.pointer none] w fun r w' => r = .returned (.int .i64 0) ∧ w = w' := by
  go_enter Tryd.func36, Tryd.ntmps36
  go_wp2
  go_ret
  exact ⟨rfl, rfl⟩
theorem Fail_nil (w : World) (e : Int) : Calls Tryd.prog 42 #[.pointer none, .int .i64 e] w fun r w' => r = .returned (.tuple #[]) ∧ w = w' := by
  go_enter Tryd.func42, Tryd.ntmps42
  go_wp2
  go_end0
  exact ⟨rfl, rfl⟩
theorem fine_nil (w : World) : Calls Tryd.prog 40 #[.pointer none] w fun r w' => r = .returned (.bool true) ∧ w = w' := by
  go_enter Tryd.func40, Tryd.ntmps40
  go_wp2_with (go_at_call 13; refine (Err_nil _).mono ?_; rintro r w1 ⟨rfl, rfl⟩)
  go_ret
  exact ⟨rfl, rfl⟩
theorem Take_nil (w : World) (n : Int) (hn : 1 ≤ n) : Calls Tryd.prog 39 #[.pointer none, .int .i64 n] w fun r w' => r = .returned (.slice none 0 0) ∧ w = w' := by
  go_enter Tryd.func39, Tryd.ntmps39
  go_wp2_with (first
    | (go_at_call 40; refine (fine_nil _).mono ?_; rintro r w1 ⟨rfl, rfl⟩)
    | (go_at_call 36; refine (Left_nil _).mono ?_; rintro r w1 ⟨rfl, rfl⟩)
    | (go_at_call 42; refine (Fail_nil _ _).mono ?_; rintro r w1 ⟨rfl, rfl⟩))
  all_goals first
    | (exfalso; omega)
    | (go_ret; exact ⟨rfl, rfl⟩)
theorem fixed_nil (w : World) : Calls Tryd.prog 46 #[.pointer none, .int .i64 1] w fun r w' => r = .returned (.int .u32 0) ∧ w = w' := by
  go_enter Tryd.func46, Tryd.ntmps46
  go_wp2_with (go_at_call 39; refine (Take_nil _ _ (by omega)).mono ?_; rintro r w1 ⟨rfl, rfl⟩)
  go_loopw [5, 12] (fun x j wr => x = .int .u32 0 ∧ j = .int .i64 0 ∧ w = wr) (fun _ _ _ => 0)
  case atStart => exact ⟨rfl, rfl, by trivial⟩
  case round =>
    obtain ⟨rfl, rfl, rfl⟩ := hrel
    go_wp2_with fail
    go_ret
    exact ⟨rfl, rfl⟩
theorem Byte_nil (w : World) : Calls Tryd.prog 38 #[.pointer none] w fun r w' => r = .returned (.int .u8 0) ∧ w = w' := by
  go_enter Tryd.func38, Tryd.ntmps38
  go_wp2_with (go_at_call 46; refine (fixed_nil _).mono ?_; rintro r w1 ⟨rfl, rfl⟩)
  go_ret
  exact ⟨rfl, rfl⟩
theorem Uint_nil (w : World) : Calls Tryd.prog 12 #[.pointer none] w fun r w' => r = .returned (.int .u64 0) ∧ w = w' := by
  go_enter Tryd.func12, Tryd.ntmps12
  go_wp2_with (go_at_call 40; refine (fine_nil _).mono ?_; rintro r w1 ⟨rfl, rfl⟩)
  go_ret
  exact ⟨rfl, rfl⟩
theorem Cur.fresh (w : World) (E : TypeId) : Cur (w.alloc (.cells #[.slice none 0 0, .int .i64 0, .int .i64 0] E)) w.heap.size [] 0 0 :=
  ⟨by simp [go_sem], by simp [go_sem], fun j => by simp [go_sem], ⟨none, 0, by simp [go_sem], Nums.nil _, by simp⟩, Nat.le_refl _⟩
set_option maxRecDepth 100000 in
set_option maxHeartbeats 1600000 in
theorem octetNone_row_walk (W : World) (hT : Tabs W) (l : List (Int × Int)) (v : Value) (hP : Prs W v l) (hb : ∀ i, i < l.length → (-9223372036854775808 ≤ p0 l i ∧ p0 l i ≤ 9223372036854775807) ∧ -9223372036854775808 ≤ p1 l i ∧ p1 l i ≤ 9223372036854775807) (hz : l.length ≤ 140737488351232) :
    Calls Tryd.prog 8 #[v] W fun e w' => e = .returned (.bool true) ∧ Old W w' := by
  have Ha := Lib.hid (awake_any W hT)
  obtain ⟨a, cap, b, off, rfl, hc1, hc2, ha, ht0, ht1⟩ := hP
  go_enter Tryd.func8, Tryd.ntmps8
  go_wp2_with fail
  refine Ha.out.mono ?_
  rintro e w1 ⟨rfl, o1⟩
  have hsz := o1.size
  go_wp2_with fail
  have Hfx := Lib.hid ((Cur.fresh w1 61).old ((Old.refl _).alloc (.cells #[.slice none 0 0, .int .i64 0, .int .i64 0] 64)))
  have Hfo := Lib.hid (Cur.fresh (w1.alloc (.cells #[.slice none 0 0, .int .i64 0, .int .i64 0] 61)) 64)
  go_loopw [16] (fun j wr => ∃ (k : Nat), k ≤ l.length ∧ j = .int .i64 k ∧ Old W wr ∧ TwoNil w1.heap.size (w1.heap.size + 1) wr) (fun j _ => l.length - (intOf j).toNat)
  case atStart => exact ⟨0, by omega, rfl, (o1.alloc _).alloc _, ⟨0, Hfx.out, by simpa [go_sem] using Hfo.out⟩⟩
  case round =>
    obtain ⟨k, hk, rfl, ho, hc⟩ := hrel
    by_cases hlt : k < l.length
    · obtain rfl := ha (by omega)
      have q0 := ht0 k hlt wr ho
      have q1 := ht1 k hlt wr ho
      obtain ⟨b0, b1⟩ := hb k hlt
      obtain ⟨e, hx, hO⟩ := hc
      have hlo := hO.lt
      have Hx := Lib.hid hx
      have HO := Lib.hid hO
      clear ht0 ht1 ha hx hO hb Hfx Hfo
      generalize p0 l k = K at *
      generalize p1 l k = N at *
      have hi1 : (k : Int) < l.length := by omega
      have hsp : K < 0 ∨ 8 < K ∨ (0 ≤ K ∧ K ≤ 8) := by omega
      rcases hsp with hK | hK | ⟨hK0, hK8⟩
      · have hd : decide (K < 0) = true := by simpa using hK
        go_wp2_with fail
        go_roundw
        case rel => exact ⟨k + 1, by omega, by go_num, ho.alloc _, ⟨e, Hx.out.old ((Old.refl _).alloc _), HO.out.old ((Old.refl _).alloc _)⟩⟩
        case measure => simp [intOf]; omega
      · have hd : decide (K < 0) = false := by simp; omega
        have hd2 : decide (8 < K) = true := by simpa using hK
        go_wp2_with fail
        all_goals first
          | (exfalso; omega)
          | skip
        go_roundw
        case rel => exact ⟨k + 1, by omega, by go_num, ho.alloc _, ⟨e, Hx.out.old ((Old.refl _).alloc _), HO.out.old ((Old.refl _).alloc _)⟩⟩
        case measure => simp [intOf]; omega
      · have hd : decide (K < 0) = false := by simp; omega
        have hd2 : decide (8 < K) = false := by simp; omega
        go_upto_region 10 with fail
        have hst : TwoNil w1.heap.size (w1.heap.size + 1) (wr.alloc (.cells #[.int .i64 K, .int .i64 N] 66)).drew := ⟨e, Hx.out.old (((Old.refl _).alloc _).drew), HO.out.old (((Old.refl _).alloc _).drew)⟩
        have Hst := Lib.hid hst
        clear hst
        go_cut [51] (fun x wx => x = .bool false ∧ Old W wx ∧ TwoNil w1.heap.size (w1.heap.size + 1) wx)
        case first =>
          go_region_with (first
            | (go_at_call 37; refine (asked_none W _ hT ((ho.alloc _).drew) _ _ hsz Hst.out (by omega) K N ⟨hK0, hK8⟩ b1).mono ?_; rintro r w2 ⟨rfl, ⟨e', hx2, hO2⟩, o2⟩; have ho2 := o2.base ((ho.alloc _).drew) hsz (by omega); have k2 := later hO2.er2; have Hx2 := Lib.hid hx2; have HO2 := Lib.hid hO2; clear hx2 hO2 o2; have hr2 := Old.refl w2)
            | (go_at_call 13; refine (Err_any Hx2.out).mono ?_; rintro r w3 ⟨rfl, rfl⟩)
            | (go_at_call 16; refine (At_any Hx2.out).mono ?_; rintro r w3 ⟨rfl, rfl⟩)
            | (go_at_call 36; refine (Left_any Hx2.out (by simp)).mono ?_; rintro r w4 ⟨rfl, hr4⟩))
          all_goals
            go_wp2_with fail
            go_meet
            exact ⟨rfl, ho2.trans hr4, ⟨e', Hx2.out.old hr4, HO2.out.old hr4⟩⟩
        case rest =>
          obtain ⟨rfl, hoc, htc⟩ := hcut
          go_wp2_with fail
          go_roundw
          case rel => exact ⟨k + 1, by omega, by go_num, hoc, htc⟩
          case measure => simp [intOf]; omega
    · have hi1 : ¬ (k : Int) < l.length := by omega
      clear ht0 ht1 ha hb Hfx Hfo hc
      go_wp2_with (first
        | (go_at_call 16; refine (At_nil _).mono ?_; rintro r w2 ⟨rfl, rfl⟩)
        | (go_at_call 36; refine (Left_nil _).mono ?_; rintro r w2 ⟨rfl, rfl⟩)
        | (go_at_call 38; refine (Byte_nil _).mono ?_; rintro r w2 ⟨rfl, rfl⟩)
        | (go_at_call 12; refine (Uint_nil _).mono ?_; rintro r w2 ⟨rfl, rfl⟩)
        | (go_at_call 39; refine (Take_nil _ _ (by omega)).mono ?_; rintro r w2 ⟨rfl, rfl⟩))
      go_ret
      exact ⟨rfl, ho⟩
end Go.Proofs.YtaclkoipobgmkaaDoor
