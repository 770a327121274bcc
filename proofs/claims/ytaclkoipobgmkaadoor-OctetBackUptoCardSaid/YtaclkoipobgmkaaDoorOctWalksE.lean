/-
  OCTET, WALKS E: the cursor's number, Fail, Uint.
-/
import Derived.Test.YtaclkoipobgmkaaDoorOctWalksD
import Derived.Test.YtaclkoipobgmkaaDoorOctPlain
namespace Go.Proofs.YtaclkoipobgmkaaDoor
open Go.RowKit
attribute [local go_sem] Old.refl Old.alloc Old.drew Old.setCell OldW.old

theorem Cur.old {w W : World} {c : Nat} {l : List Int} {p : Nat} {e : Int} (h : Cur w c l p e) (o : Old w W) : Cur W c l p e := by
  obtain ⟨a, cap, h0, hr, hne⟩ := h.row
  refine ⟨o.cell h.at1, o.cell h.er2, fun j => ?_, ⟨a, cap, o.cell h0, hr.old o, hne⟩, h.le⟩
  have hb := o.block c (World.block_lt_of_cell? w _ h.at1)
  have := h.fz j
  unfold World.frozen? at this ⊢
  dsimp only at this ⊢
  rw [hb]; exact this
theorem and_127 (x : Int) (h0 : 0 ≤ x) (h1 : x ≤ 255) : bits .and .u64 x 127 = x % 128 :=
  bits_mask .u64 64 (by decide) (fun n h h' => by rw [wrap_u64]; omega) 7 (by decide) x h0 (by omega)
theorem or_group {m i X : Nat} (hm : m < 2 ^ (7 * i)) (hX : X * 2 ^ (7 * i) < 18446744073709551616) (hm64 : m < 18446744073709551616) :
    bits .or .u64 (m : Int) (IntKind.u64.wrap ((X : Int) * 2 ^ (7 * i))) = ((m + X * 2 ^ (7 * i) : Nat) : Int) := by
  have e : (X : Int) * 2 ^ (7 * i) = ((X * 2 ^ (7 * i) : Nat) : Int) := by push_cast; rfl
  rw [e, show IntKind.u64.wrap ((X * 2 ^ (7 * i) : Nat) : Int) = ((X * 2 ^ (7 * i) : Nat) : Int) from by rw [wrap_u64]; omega]
  rw [(bits_nat .u64 64 (by decide) (fun n h h' => by rw [wrap_u64]; omega) m (X * 2 ^ (7 * i)) hm64 hX).2, Nat.or_comm, Nat.mul_comm X, ← Nat.two_pow_add_eq_or_of_lt hm X, Nat.add_comm]
set_option maxRecDepth 100000 in
set_option maxHeartbeats 1600000 in
theorem number_any {l : List Int} {p c : Nat} {e : Int} {w : World} (h : Cur w c l p e) (hb : Byt l) (hz : l.length ≤ 140737488355328) :
    Calls Tryd.prog 41 #[.pointer (some ⟨c, 0, none⟩)] w fun r w' => r = .returned (.tuple #[.int .u64 ((num l p 0 0).1 : Nat), .int .i64 ((num l p 0 0).2.1 : Nat), .int .i64 (num l p 0 0).2.2]) ∧ Old w w' := by
  have Hc := Lib.hid h
  have hle := h.le
  have h1 := later h.at1
  obtain ⟨a, cap, h0, hr, _⟩ := h.row
  have h0' := later h0
  obtain ⟨_, _, b, off, e0, hc1, hc2, ha, ht0⟩ := hr
  obtain ⟨rfl, _, rfl⟩ := Value.slice.inj e0
  clear h h0 e0
  go_enter Tryd.func41, Tryd.ntmps41
  go_wp2_with fail
  go_step3
  go_wp2_with fail
  go_step3
  go_wp2_with fail
  go_loopw [5, 6] (fun n j wr => ∃ (i m : Nat), i ≤ 10 ∧ p + i ≤ l.length ∧ j = .int .i64 i ∧ n = .int .u64 m ∧ m < 2 ^ (7 * i) ∧ m < 18446744073709551616 ∧ num l p i m = num l p 0 0 ∧ Old w wr) (fun _ j _ => l.length - (intOf j).toNat)
  case atStart => exact ⟨0, 0, by omega, by omega, rfl, rfl, by decide, by omega, rfl, Old.refl _⟩
  case round =>
    obtain ⟨i, m, hi, hpi, rfl, rfl, hm, hm64, hat, hold⟩ := hrel
    have Hat := Lib.hid hat
    have Hm := Lib.hid hm
    clear hat hm
    by_cases hlt : p + i < l.length
    · have Hleft := Lib.hid (fun W (o : Old w W) => Left_any (Hc.out.old o) (by omega))
      have hx := hb (p + i) hlt
      have htx := ht0 (p + i) hlt
      obtain rfl := ha (by omega)
      have hli : decide ((i : Int) < (l.length : Int) - p) = true := by simp; omega
      clear ha ht0
      obtain ⟨X, hX⟩ := Int.eq_ofNat_of_zero_le hx.1
      have hXn : (ix l (p + i)).toNat = X := by rw [hX]; rfl
      rw [hX] at hx htx
      by_cases hf : 9 < i ∨ (i = 9 ∧ 1 < X)
      · have Hn := Lib.hid (num_form (n := m) hlt (by rw [hXn]; exact hf))
        go_wp2_with (go_at_call 36; refine (Calls.old hold (Hleft.out _ hold)).mono ?_; rintro r w2 ⟨rfl, ho2⟩)
        refine wp_region_old ho2 (by kernel_rfl) (by kernel_rfl) ?_
        repeat (go_big_quiet_step (fail))
        refine wpQuiet_nil ?_
        rintro ⟨wq, hq⟩
        dsimp only
        go_wp2_with fail
        all_goals first
          | (exfalso; omega)
          | (first | rw [Exit.noGoto_ret] | skip
             go_ret3
             exact ⟨by rw [← Hat.out, Hn.out]; rfl, hq⟩)
      · by_cases h128 : X < 128
        · by_cases hz0 : X = 0 ∧ 0 < i
          · have Hn := Lib.hid (num_zero (n := m) hlt (by rw [hXn]; exact hf) (by rw [hXn]; exact hz0.1) hz0.2)
            go_wp2_with (go_at_call 36; refine (Calls.old hold (Hleft.out _ hold)).mono ?_; rintro r w2 ⟨rfl, ho2⟩)
            refine wp_region_old ho2 (by kernel_rfl) (by kernel_rfl) ?_
            repeat (go_big_quiet_step (fail))
            refine wpQuiet_nil ?_
            rintro ⟨wq, hq⟩
            dsimp only
            go_wp2_with fail
            all_goals first
              | (exfalso; omega)
              | (first | rw [Exit.noGoto_ret] | skip
                 go_ret3
                 exact ⟨by rw [← Hat.out, Hn.out]; rfl, hq⟩)
          · have Hn := Lib.hid (num_last (n := m) hlt (by rw [hXn]; exact hf) (by rw [hXn]; exact h128) (by rw [hXn]; exact hz0))
            rw [hXn] at Hn
            have hi9 : i ≤ 9 := by omega
            have Hor := Lib.hid (show bits .or .u64 (m : Int) (IntKind.u64.wrap (bits .and .u64 (X : Int) 127 * 2 ^ (7 * i))) = ((m + X * 2 ^ (7 * i) : Nat) : Int) from by
              have hXX : X * 2 ^ (7 * i) < 18446744073709551616 := by
                by_cases h9 : i = 9
                · subst h9
                  exact Nat.lt_of_le_of_lt (Nat.mul_le_mul_right _ (show X ≤ 1 by omega)) (by decide)
                · exact Nat.lt_of_lt_of_le (Nat.mul_lt_mul_of_lt_of_le h128 (Nat.pow_le_pow_right (by decide) (show 7 * i ≤ 56 by omega)) (by decide)) (by decide)
              rw [and_127 _ (by omega) (by omega), show (X : Int) % 128 = (X : Int) from by omega]
              exact or_group Hm.out hXX hm64)
            go_wp2_with (go_at_call 36; refine (Calls.old hold (Hleft.out _ hold)).mono ?_; rintro r w2 ⟨rfl, ho2⟩)
            refine wp_region_old ho2 (by kernel_rfl) (by kernel_rfl) ?_
            repeat (go_big_quiet_step (fail))
            refine wpQuiet_nil ?_
            rintro ⟨wq, hq⟩
            dsimp only
            go_wp2_with (go_at_call 36; refine (Calls.old hq (Hleft.out _ hq)).mono ?_; rintro r w3 ⟨rfl, ho3⟩)
            all_goals first
              | (exfalso; omega)
              | (first | rw [Exit.noGoto_ret] | skip
                 go_ret3
                 exact ⟨by rw [← Hat.out, Hn.out, Hor.out]; rfl, ho3⟩)
              | (have h9 : i = 9 := by omega
                 subst h9
                 have hv := Hor.out
                 rw [show (2 : Int) ^ (7 * 9) = 9223372036854775808 from by decide] at hv
                 first | rw [Exit.noGoto_ret] | skip
                 go_ret3
                 exact ⟨by rw [← Hat.out, Hn.out, hv]; rfl, ho3⟩)
              | (have h9 : X = 0 := by omega
                 subst h9
                 have hv := Hor.out
                 rw [show ((0 : Nat) : Int) = 0 from rfl] at hv
                 first | rw [Exit.noGoto_ret] | skip
                 go_ret3
                 exact ⟨by rw [← Hat.out, Hn.out, hv]; rfl, ho3⟩)
        · have hi8 : i ≤ 8 := by omega
          have Hn := Lib.hid (num_more (n := m) hlt (by rw [hXn]; exact hf) (by rw [hXn]; exact h128))
          have hp7 : 2 ^ (7 * (i + 1)) = 128 * 2 ^ (7 * i) := by rw [show 7 * (i + 1) = 7 + 7 * i from by omega, Nat.pow_add]
          have hpw : 2 ^ (7 * i) ≤ 2 ^ 56 := Nat.pow_le_pow_right (by decide) (by omega)
          have hmul : X % 128 * 2 ^ (7 * i) ≤ 127 * 2 ^ (7 * i) := Nat.mul_le_mul_right _ (by omega)
          have h56 : (2 : Nat) ^ 56 = 72057594037927936 := by decide
          have hm := Hm.out
          have Hor := Lib.hid (show bits .or .u64 (m : Int) (IntKind.u64.wrap (bits .and .u64 (X : Int) 127 * 2 ^ (7 * i))) = ((m + X % 128 * 2 ^ (7 * i) : Nat) : Int) from by
            rw [and_127 _ (by omega) (by omega), show (X : Int) % 128 = ((X % 128 : Nat) : Int) from by omega]
            exact or_group hm (by omega) hm64)
          go_wp2_with (go_at_call 36; refine (Calls.old hold (Hleft.out _ hold)).mono ?_; rintro r w2 ⟨rfl, ho2⟩)
          refine wp_region_old ho2 (by kernel_rfl) (by kernel_rfl) ?_
          repeat (go_big_quiet_step (fail))
          refine wpQuiet_nil ?_
          rintro ⟨wq, hq⟩
          dsimp only
          go_wp2_with fail
          all_goals first
            | (exfalso; omega)
            | skip
          go_roundw
          case rel => exact ⟨i + 1, m + X % 128 * 2 ^ (7 * i), by omega, by omega, by go_num, by rw [Hor.out], by rw [hp7]; omega, by omega, by rw [← Hat.out, Hn.out, hXn], hq⟩
          case measure => simp [intOf]; omega
    · have Hn := Lib.hid (num_torn (n := m) hlt)
      have Hleft := Lib.hid (fun W (o : Old w W) => Left_any (Hc.out.old o) (by omega))
      have hli : decide ((i : Int) < (l.length : Int) - p) = false := by simp; omega
      have tk1 := True.intro
      go_wp2_with (first
        | (go_at_call 36; clear tk1; refine (Calls.old hold (Hleft.out _ hold)).mono ?_; rintro r w2 ⟨rfl, ho2⟩)
        | (go_at_call 36; refine (Calls.old ho2 (Hleft.out _ ho2)).mono ?_; rintro r w3 ⟨rfl, ho3⟩))
      all_goals first
        | (exfalso; omega)
        | (first | rw [Exit.noGoto_ret] | skip
           go_ret3
           exact ⟨by rw [← Hat.out, Hn.out]; rfl, ho3⟩)
end Go.Proofs.YtaclkoipobgmkaaDoor
